/- The law IdsRetires (chapter 9), walked. -/
import Derived.Test.YtcdllhbifdgfaaaIdsOr
import Derived.Test.YtcdllhbifdgfaaaRun
namespace Go.Proofs.Ytcdllhbifdgfaaa
open Go.RowKit

theorem own_base {w : World} {B B' : Nat} {e : TypeId} {k : Nat} {v : Value} {n : Nat} {xs : List Value} (h : w.ownsRow B e k v n xs) (hB : B' ≤ B) : w.ownsRow B' e k v n xs := by
  refine ⟨h.1, ?_⟩
  rcases h.2 with h2 | ⟨g, cap, cur, hv, hg, r⟩
  · exact .inl h2
  · exact .inr ⟨g, cap, cur, hv, Nat.le_trans hB hg, r⟩
theorem Wi.base {b B0 B' : Nat} {V : Value} {s : Wd} {w : World} (h : Wi b B0 V s w) (hB : B' ≤ B0) : Wi b B' V s w := ⟨h.ob, own_base h.own hB, h.ne, Nat.le_trans hB h.bb⟩
/-- two windows side by side -/
structure W2 (B C : Nat) (V U : Value) (s t : Wd) (w : World) : Prop where
  a : Wi B B V s w
  b : Wi C B U t w
  ap : ∀ x, WM B V x → ¬ WM C U x
theorem W2.first {B C : Nat} {V U : Value} {s t s' : Wd} {w w' : World} (h : W2 B C V U s t w) (hp : WiPost B B V s' w w') : ∃ V', W2 B C V' U s' t w' ∧ Below B w w' := by
  obtain ⟨V', h1, h2, h3⟩ := hp
  refine ⟨V', ⟨h1, h.b.kept h2 (fun x hx hh => h.ap x hh hx), fun x hx hu => ?_⟩, h2.belowAt (Nat.le_of_lt h.a.ob.lt) (fun x hx => (h.a.lt x hx).1)⟩
  rcases h3 x hx with hh | hh
  · exact h.ap x hh hu
  · have := (h.b.lt x hu).2; omega
theorem W2.second {B C : Nat} {V U : Value} {s t t' : Wd} {w w' : World} (h : W2 B C V U s t w) (hp : WiPost C B U t' w w') : ∃ U', W2 B C V U' s t' w' ∧ Below B w w' := by
  obtain ⟨U', h1, h2, h3⟩ := hp
  refine ⟨U', ⟨h.a.kept h2 (fun x hx hh => h.ap x hx hh), h1, fun x hx hu => ?_⟩, h2.belowAt (Nat.le_of_lt h.a.ob.lt) (fun x hx => (h.b.lt x hx).1)⟩
  rcases h3 x hu with hh | hh
  · exact h.ap x hx hh
  · have := (h.a.lt x hx).2; omega
theorem W2.below {B C : Nat} {V U : Value} {s t : Wd} {w w' : World} (h : W2 B C V U s t w) (hb : Below w.heap.size w w') : W2 B C V U s t w' := ⟨h.a.below hb, h.b.below hb, h.ap⟩
theorem W2.drew {B C : Nat} {V U : Value} {s t : Wd} {w : World} (h : W2 B C V U s t w) : W2 B C V U s t w.drew := ⟨h.a.drew, h.b.drew, h.ap⟩
theorem W2.dn {B C n : Nat} {V U : Value} {s t : Wd} {w : World} (h : W2 B C V U s t w) : W2 B C V U s t (w.drewN n) := ⟨h.a.dn, h.b.dn, h.ap⟩
set_option maxHeartbeats 4000000 in
theorem retires_in (l : List Int) (v : Value) (below look : Int) (w : World) (h : Rd w 1 v l.length (l.map (Value.int .u64))) (hl : l.length ≤ 60) (hg : ∀ x ∈ l, 0 ≤ x) (b0 : 0 ≤ below) (b1 : below ≤ 1152921504606846976) (k0 : 0 ≤ look) : Calls Try.prog 7 #[v, .int .u64 below, .int .u64 look] w (TrueBelow w) := by
  obtain ⟨v, cp, rfl, h1, h2⟩ := h.form
  have HR := Lib.hid h
  have HG := Lib.hid hg
  clear h hg
  go_enter Try.func7, Try.ntmps7
  go_wp2_with fail
  refine (new_yes 100 _ ⟨by decide, by decide⟩).mono ?_
  rintro e w1 ⟨rfl, hw, hb⟩
  have HB := Lib.hid hb
  have HW := Lib.hid hw
  have s1 := hb.size
  have l1 := hw.ob.lt
  clear hw hb
  go_wp2_with fail
  refine (new_yes 100 _ ⟨by decide, by decide⟩).mono ?_
  rintro e w2 ⟨rfl, hw, hb⟩
  have HB2 := Lib.hid (HB.out.trans (hb.mono s1))
  generalize hC : w1.heap.size = C at *
  generalize hB : w.heap.size = B at *
  have HBQ := Lib.hid hB
  have HW2 : Hid (W2 B C (.slice none 0 0) (.slice none 0 0) ⟨100, 1, []⟩ ⟨100, 1, []⟩ w2) := Lib.hid ⟨HW.out.below (by rw [hC]; exact hb), hw.base s1, fun x hx hu => by
    rcases hx with rfl | hx
    · rcases hu with rfl | hu
      · omega
      · cases hu
    · cases hx⟩
  clear hw hb hB HW HB
  go_wp2_with fail
  go_loopw [11] (fun i wr => ∃ (k : Nat) (V U : Value) (s : Wd), i = .int .i64 k ∧ k ≤ l.length ∧ W2 B C V U s s wr ∧ s.ok ∧ Below B w wr) (fun i _ => l.length - (intOf i).toNat)
  case atStart => exact ⟨0, _, _, _, rfl, Nat.zero_le _, HW2.out, new_ok (by decide) (by decide), HB2.out⟩
  case round =>
    obtain ⟨k, V, U, s, rfl, hk, hw, ho, hb⟩ := hrel
    have HWk := Lib.hid hw
    have HO := Lib.hid ho
    have HBk := Lib.hid hb
    have sk : B ≤ wr.heap.size := by have := hb.size; rw [HBQ.out] at this; exact this
    clear hw ho hb
    by_cases hlt : k < l.length
    · have hrd := HR.out.below (by rw [HBQ.out]; exact HBk.out)
      obtain ⟨b, o, rfl, c0⟩ := hrd.at k hlt
      have hbl : b < wr.heap.size := by
        obtain ⟨_, _, _, he, _, _, hb, _⟩ := hrd.some (by omega) (by decide)
        cases he; exact hb
      have hbB : b < B := by
        obtain ⟨_, _, _, he, _, _, hb, _⟩ := HR.out.some (by omega) (by decide)
        cases he; rw [← HBQ.out]; exact hb
      clear hrd
      have nb := not_since hbB
      have hx0 := HG.out l[k] (List.getElem_mem hlt)
      generalize l[k] = x at *
      go_wp2_with fail
      refine wp_run (M := (Since B)) (stages [([true, true, true, true, true, false, true, true, true, true, true, false, false], 5), ([false, false, false, false, false, false, false, false, false, false, false, false, false], 11)] [false, false, false, false, false, false, false, false, false, false, false, false, true]) (by kernel_rfl) (by kernel_rfl) ?_
      refine run_stage rfl ?_
      simp only [pickAt]
      repeat (go_big_quiet_step (fail))
      refine wpQuiet_nil ?_
      refine run_want rfl ?_
      intro A hA
      go_simp
      refine (done_any B B V s x _ HWk.out.drew.a HO.out hx0).mono ?_
      rintro e w3 ⟨rfl, hp3⟩
      obtain ⟨V3, hw3, hb3⟩ := HWk.out.drew.first hp3
      have HW3 := Lib.hid hw3
      have B3 := Lib.hid (HBk.out.drew.trans hb3)
      have hk3 : Kept (Since B) wr.drew w3 := by
        obtain ⟨_, _, hk, _⟩ := hp3
        exact hk.mono fun y _ hy => (HWk.out.drew.a.lt y hy).1
      refine hA _ _ (hk3) ?_
      try simp only [Act.put, List.setIfInBounds_toArray, List.set_cons_zero, List.set_cons_succ]
      clear A hA
      clear hp3 hw3 hb3 hk3
      refine run_stage rfl ?_
      simp only [pickAt]
      repeat (go_big_quiet_step (fail))
      refine wpQuiet_nil ?_
      refine run_want rfl ?_
      intro A hA
      go_simp
      refine (done_any C B U s x _ HW3.out.b HO.out hx0).mono ?_
      rintro e w4 ⟨rfl, hp4⟩
      obtain ⟨U4, hw4, hb4⟩ := HW3.out.second hp4
      have HW4 := Lib.hid hw4
      have B4 := Lib.hid (B3.out.trans hb4)
      have hk4 : Kept (Since B) w3 w4 := by
        obtain ⟨_, _, hk, _⟩ := hp4
        exact hk.mono fun y _ hy => (HW3.out.b.lt y hy).1
      refine hA _ _ (hk4) ?_
      try simp only [Act.put, List.setIfInBounds_toArray, List.set_cons_zero, List.set_cons_succ]
      clear A hA
      clear hp4 hw4 hb4 hk4
      refine run_last ?_
      simp only [pickAt]
      repeat (go_big_quiet_step (fail))
      refine wpQuiet_nil ?_
      go_wp2_with fail
      go_roundw
      case rel => exact ⟨k + 1, V3, U4, _, by go_num, by omega, HW4.out, done_ok HO.out x hx0, B4.out⟩
      case measure => simp [intOf]; omega
    · go_wp2_with fail
      refine (len_any B B V s _ HWk.out.a).mono ?_
      rintro e w3 ⟨rfl, rfl⟩
      go_wp2_with fail
      refine (retire_any C B U s below _ HWk.out.b HO.out b0).mono ?_
      rw [show min below 1152921504606846977 = below by omega]
      rintro e w3 ⟨rfl, hp3⟩
      obtain ⟨U3, hw3, hb3⟩ := HWk.out.second hp3
      have HW3 := Lib.hid hw3
      have B3 := Lib.hid (HBk.out.trans hb3)
      have HT := Lib.hid (goes_ok HO.out below (by omega))
      have HZ := Lib.hid (again_zero HO.out below)
      have HI : Hid (∀ x, (s.goes below).has x ↔ x < below ∨ s.has x) := Lib.hid (fun x => by
        rw [goes_has]; unfold Wd.has
        constructor
        · rintro (h | h)
          · rcases (by omega : x < s.mark ∨ x < below) with h | h
            · exact .inr (.inl h)
            · exact .inl h
          · exact .inr (.inr h)
        · rintro (h | h | h)
          · exact .inl (by omega)
          · exact .inl (by omega)
          · exact .inr h)
      have hgl := gn_le s.l (max s.mark below)
      have m1 := (goes_mark s below).2
      have m2 := (goes_mark s below).1
      have hll := goes_len s below
      have hsl : s.l.length ≤ 100000 := by have := HO.out.ln; have := HO.out.a1; omega
      obtain ⟨g, HGG, g0, g1, hll2⟩ : ∃ g : Int, Hid (s.went below = g) ∧ 0 ≤ g ∧ g ≤ s.l.length ∧ (((s.goes below).l.length : Nat) : Int) = s.l.length - g := ⟨_, Lib.hid rfl, by unfold Wd.went; omega, by unfold Wd.went; omega, by unfold Wd.went; omega⟩
      rw [HGG.out]
      generalize s.goes below = t at *
      have hlb : (((t.l.length : Nat) : Int) != (s.l.length : Int) - g) = false := by simp [hll2]
      have s3 : B ≤ w3.heap.size := by have := B3.out.size; rw [HBQ.out] at this; exact this
      clear hp3 hw3 hb3 hgl hll
      go_wp2_with fail
      refine (len_any C B U3 t _ HW3.out.b).mono ?_
      rintro e w4 ⟨rfl, rfl⟩
      go_wp2_with fail
      refine (mark_any C B U3 t _ HW3.out.b).mono ?_
      rintro e w4 ⟨rfl, rfl⟩
      go_wp2_with fail
      refine (mark_any C B U3 t _ HW3.out.b).mono ?_
      rintro e w4 ⟨rfl, rfl⟩
      go_wp2_with fail
      refine (mark_any B B V s _ HW3.out.a).mono ?_
      rintro e w4 ⟨rfl, rfl⟩
      go_wp2_with fail
      refine (is_any C B U3 t look _ HW3.out.b HT.out).mono ?_
      rintro e w4 ⟨rfl, q4, rfl⟩
      have HW4 := Lib.hid (HW3.out.dn (n := q4))
      have B4 := Lib.hid (below_dn (n := q4) B3.out)
      have s4 : B ≤ (w3.drewN q4).heap.size := s3
      generalize w3.drewN q4 = w4 at *
      have hbool : ∀ a b : Bool, (a = true ↔ b = true) → a = b := by decide
      rcases (by omega : look = 0 ∨ (0 < look ∧ look < below) ∨ (0 < look ∧ ¬ look < below)) with hc | ⟨hc, hc2⟩ | ⟨hc, hc2⟩
      · have e1 : t.is look = false := by
          have : ¬ t.is look = true := fun hh => ((is_iff _ _).1 hh).1 hc
          simpa using this
        rw [e1]
        have hlk : decide (0 < look) = false := decide_eq_false (by omega)
        go_wp2_with fail
        refine (retire_any C B U3 t below _ HW4.out.b HT.out b0).mono ?_
        rw [show min below 1152921504606846977 = below by omega]
        rintro e w5 ⟨rfl, hp5⟩
        rw [HZ.out]
        obtain ⟨U5, _, hb5⟩ := HW4.out.second hp5
        have B5 := Lib.hid (B4.out.trans hb5)
        have s5 : B ≤ w5.heap.size := Nat.le_trans s4 hb5.size
        clear hp5 hb5
        go_wp2_with fail
        refine (awake_any _).mono ?_
        rintro e w6 ⟨rfl, hb6⟩
        go_wp2_with fail
        go_ret
        refine ⟨rfl, ?_⟩
        rw [HBQ.out]
        exact B5.out.trans (hb6.mono s5)
      · have e1 : t.is look = true := (is_iff _ _).2 ⟨by omega, (HI.out _).2 (.inl hc2)⟩
        rw [e1]
        go_wp2_with fail
        refine (retire_any C B U3 t below _ HW4.out.b HT.out b0).mono ?_
        rw [show min below 1152921504606846977 = below by omega]
        rintro e w5 ⟨rfl, hp5⟩
        rw [HZ.out]
        obtain ⟨U5, _, hb5⟩ := HW4.out.second hp5
        have B5 := Lib.hid (B4.out.trans hb5)
        have s5 : B ≤ w5.heap.size := Nat.le_trans s4 hb5.size
        clear hp5 hb5
        go_wp2_with fail
        refine (awake_any _).mono ?_
        rintro e w6 ⟨rfl, hb6⟩
        go_wp2_with fail
        go_ret
        refine ⟨rfl, ?_⟩
        rw [HBQ.out]
        exact B5.out.trans (hb6.mono s5)
      · have hiff : t.is look = true ↔ s.is look = true := by
          rw [is_iff, is_iff, HI.out]
          constructor
          · rintro ⟨h, h1 | h1⟩
            · exact absurd h1 hc2
            · exact ⟨h, h1⟩
          · rintro ⟨h, h1⟩
            exact ⟨h, .inr h1⟩
        have e1 := hbool _ _ hiff
        have hd3 : decide (look < below) = false := decide_eq_false hc2
        rw [e1]
        go_wp2_with fail
        refine (is_any B B V s look _ HW4.out.a HO.out).mono ?_
        rintro e w5 ⟨rfl, q5, rfl⟩
        have HW4 := Lib.hid (HW4.out.dn (n := q5))
        have B4 := Lib.hid (below_dn (n := q5) B4.out)
        have s4 : B ≤ (w4.drewN q5).heap.size := s4
        generalize w4.drewN q5 = w4 at *
        go_wp2_with fail
        refine (retire_any C B U3 t below _ HW4.out.b HT.out b0).mono ?_
        rw [show min below 1152921504606846977 = below by omega]
        rintro e w5 ⟨rfl, hp5⟩
        rw [HZ.out]
        obtain ⟨U5, _, hb5⟩ := HW4.out.second hp5
        have B5 := Lib.hid (B4.out.trans hb5)
        have s5 : B ≤ w5.heap.size := Nat.le_trans s4 hb5.size
        clear hp5 hb5
        go_wp2_with fail
        refine (awake_any _).mono ?_
        rintro e w6 ⟨rfl, hb6⟩
        go_wp2_with fail
        go_ret
        refine ⟨rfl, ?_⟩
        rw [HBQ.out]
        exact B5.out.trans (hb6.mono s5)
theorem retires_any (l : List Int) (v : Value) (below look : Int) (w : World) (h : Rd w 1 v l.length (l.map (Value.int .u64))) (hg : ∀ x ∈ l, 0 ≤ x) (b0 : 0 ≤ below) (k0 : 0 ≤ look) : Calls Try.prog 7 #[v, .int .u64 below, .int .u64 look] w (TrueBelow w) := by
  by_cases hc : l.length ≤ 60 ∧ below ≤ 1152921504606846976
  · exact retires_in l v below look w h hc.1 hg b0 hc.2 k0
  · have hc2 : 60 < l.length ∨ (l.length ≤ 60 ∧ 1152921504606846976 < below) := by omega
    obtain ⟨v, cp, rfl, h1, h2⟩ := h.form
    clear h hc
    rcases hc2 with h | ⟨h, h3⟩
    all_goals
      go_enter Try.func7, Try.ntmps7
      go_wp2_with fail
      refine (awake_any _).mono ?_
      rintro e w2 ⟨rfl, hb⟩
      go_wp2_with fail
      go_ret
      exact ⟨rfl, hb⟩
end Go.Proofs.Ytcdllhbifdgfaaa
