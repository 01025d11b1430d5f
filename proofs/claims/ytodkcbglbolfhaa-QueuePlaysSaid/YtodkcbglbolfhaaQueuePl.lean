/- The law QueuePlays (chapter 12), walked. -/
import Derived.Test.YtodkcbglbolfhaaQueueIn
import Derived.Deep.CutBlock
namespace Go.Proofs.Ytodkcbglbolfhaa
open Go.RowKit

def nilL : Nat → List Bx := fun _ => []
def nilV : Nat → Value := fun _ => .slice none 0 0
theorem rowSp (x : Sp) : x.row.length = 4 := rfl
def LoopI (l : List Sp) (B m : Nat) (room : Int) (w : World) (i : Value) (wr : World) : Prop :=
  ∃ (k : Nat) (V S : Nat → Value) (L : Nat → List Bx), i = .int .i64 k ∧ k ≤ l.length ∧ St B m B V S room L L wr ∧ lenTo L 8 ≤ k ∧ usedTo L 8 ≤ room ∧ Below B w wr

set_option maxRecDepth 100000 in
set_option maxHeartbeats 16000000 in
theorem plays_in (room : Int) (l : List Sp) (v : Value) (w : World) (h : Rd w 4 v l.length (l.flatMap Sp.row)) (hl : l.length ≤ 100) (hr : 0 ≤ room ∧ room ≤ 1099511627776) : Calls Try.prog 5 #[.int .i64 room, v] w (TrueBelow w) := by
  obtain ⟨v, cp, rfl, h1, h2⟩ := h.form
  have HR := Lib.hid h
  clear h
  obtain ⟨r1, r2⟩ := hr
  go_enter Try.func5, Try.ntmps5
  go_wp2_with fail
  refine (qnew_yes room _ ⟨r1, r2⟩).mono ?_
  rintro e w1 ⟨rfl, hq, hb1⟩
  have HQ := Lib.hid hq
  have HB := Lib.hid hb1
  have hs1 := hb1.size
  have hlt := hq.ob.lt
  clear hq hb1
  go_wp2_with fail
  generalize hB : w.heap.size = B at *
  have HBQ := Lib.hid hB
  clear hB
  have hst : St B w1.heap.size B nilV nilV room nilL nilL (w1.alloc (.cells (mcells room nilV) 45)) := by
    refine ⟨HQ.out.alloc _, ⟨Ob.new _ _ _, fun i _ => Rd.nil _ _⟩, fun i _ a l c he => (by cases he), ?_, Nat.le_of_lt hlt⟩
    rintro (he | ⟨i, _, he⟩)
    · omega
    · cases he
  have HST := Lib.hid hst
  have HBM := Lib.hid (HB.out.alloc (by omega) (.cells (mcells room nilV) 45))
  clear hst HQ HB
  unfold mcells nilV at HST HBM
  generalize w1.alloc (.cells #[.int .i64 room, .slice none 0 0, .slice none 0 0, .slice none 0 0, .slice none 0 0, .slice none 0 0, .slice none 0 0, .slice none 0 0, .slice none 0 0] 45) = wm at *
  generalize w1.heap.size = M at *
  go_loopw [9] (LoopI l B M room w) (fun i _ => l.length - (intOf i).toNat)
  case atStart => exact ⟨0, _, _, _, rfl, by omega, HST.out, Nat.le_refl _, r1, HBM.out⟩
  case round =>
    obtain ⟨k, V, S, L, rfl, hk, hst, hln, hus, hb⟩ := hrel
    have HST := Lib.hid hst
    have HB := Lib.hid hb
    clear hst hb
    by_cases hlk : k < l.length
    · have hRd := HR.out.below (by rw [HBQ.out]; exact HB.out)
      obtain ⟨b, o, rfl, hbo, cw⟩ := Rd.row rowSp (by decide) hRd k hlk
      generalize l[k] = x at cw
      have c0 := cw 0 (.int .i64 x.kind) rfl
      have c1 := cw 1 (.int .i64 x.prio) rfl
      have c2 := cw 2 (.int .i64 x.n) rfl
      have c3 := cw 3 (.int .i64 x.v) rfl
      rw [Nat.add_zero] at c0
      clear cw hRd
      have hdk : decide ((k : Int) < l.length) = true := decide_eq_true (by omega)
      have hbs : b < wr.heap.size := hbo
      have hsw : B ≤ wr.heap.size := by have := HB.out.size; rw [HBQ.out] at this; exact this
      go_upto_region 15 with fail
      go_cut [12] from 68 to 90 (fun s12 wx => s12 = .bool (decide (0 ≤ x.prio ∧ x.prio < 8)) ∧ wx = (wr.alloc (.cells #[.int .i64 x.kind, .int .i64 x.prio, .int .i64 x.n, .int .i64 x.v] 47)).alloc (.cells #[.int .i64 x.n, .int .i64 x.v] 29))
      case first =>
        rcases (by omega : x.prio < 0 ∨ (0 ≤ x.prio ∧ 8 ≤ x.prio) ∨ (0 ≤ x.prio ∧ x.prio < 8)) with g1 | ⟨g1, g2⟩ | ⟨g1, g2⟩
        all_goals
          go_wp2_with fail
          go_meet
          exact ⟨by congr 1; simp <;> omega, rfl⟩
      case rest =>
      obtain ⟨rfl, rfl⟩ := hcut
      have OX := Lib.hid ((Ob.new wr #[.int .i64 x.kind, .int .i64 x.prio, .int .i64 x.n, .int .i64 x.v] 47).alloc (.cells #[.int .i64 x.n, .int .i64 x.v] 29))
      have OY := Lib.hid (Ob.new (wr.alloc (.cells #[.int .i64 x.kind, .int .i64 x.prio, .int .i64 x.n, .int .i64 x.v] 47)) #[.int .i64 x.n, .int .i64 x.v] 29)
      rw [World.size_alloc] at OY
      have HSX := Lib.hid ((HST.out.alloc (.cells #[.int .i64 x.kind, .int .i64 x.prio, .int .i64 x.n, .int .i64 x.v] 47)).alloc (.cells #[.int .i64 x.n, .int .i64 x.v] 29))
      have HBX := Lib.hid ((HB.out.alloc hsw (.cells #[.int .i64 x.kind, .int .i64 x.prio, .int .i64 x.n, .int .i64 x.v] 47)).alloc (by rw [World.size_alloc]; omega) (.cells #[.int .i64 x.n, .int .i64 x.v] 29))
      generalize (wr.alloc (.cells #[.int .i64 x.kind, .int .i64 x.prio, .int .i64 x.n, .int .i64 x.v] 47)).alloc (.cells #[.int .i64 x.n, .int .i64 x.v] 29) = wx at *
      obtain ⟨lx, cx, fx⟩ := OX.out.blk
      obtain ⟨ly, cy, fy⟩ := OY.out.blk
      go_upto_block 2 with fail
      go_cut [12, 13, 14, 15, 16, 17, 18, 19, 20] from 68 to 251 (fun s12 s13 s14 s15 s16 s17 s18 s19 s20 wx => ∃ (V S : Nat → Value) (L : Nat → List Bx), St B M B V S room L L wx ∧ lenTo L 8 ≤ k + 1 ∧ usedTo L 8 ≤ room ∧ Below B w wx)
      case first =>
        clear c0 c1 c2 c3
        have hsx : B ≤ wx.heap.size := by have := HBX.out.size; rw [HBQ.out] at this; exact this
        by_cases hk1 : x.kind = 1
--<K1
        · as_aux_lemma =>
          have kb1 : (x.kind == 1) = true := beq_iff_eq.2 hk1
          clear hk1
          rcases (by omega : (x.prio < 0 ∨ 8 ≤ x.prio) ∨ (0 ≤ x.prio ∧ x.prio < 8)) with hp | hp
          · have hm : decide (0 ≤ x.prio ∧ x.prio < 8) = false := by simp; omega
            have HP := Lib.hid hp
            clear hp
            go_wp2_with fail
            refine (push_no _ ⟨x.n, x.v⟩ _ HP.out _).mono ?_
            rintro e w5 ⟨rfl, hb5⟩
            go_wp2_with fail
            go_meet
            exact ⟨V, S, L, HSX.out.below hb5, by omega, hus, HBX.out.trans (hb5.mono hsx)⟩
          · have hm : decide (0 ≤ x.prio ∧ x.prio < 8) = true := decide_eq_true hp
            obtain ⟨p, HPP, hp8⟩ : ∃ p : Nat, Hid (x.prio = (p : Int)) ∧ p < 8 := ⟨x.prio.toNat, Lib.hid (by omega), by omega⟩
            clear hp
            rw [HPP.out] at OX
            clear lx cx fx
            obtain ⟨lx, cx, fx⟩ := OX.out.blk
            go_wp2_with fail
            obtain ⟨s, hs0, hs1, HSZ⟩ : ∃ s : Int, 0 ≤ s ∧ s ≤ 1073741824 ∧ Hid ((⟨x.n, x.v⟩ : Bx).sz = s) := ⟨_, (szBx _).1, (szBx _).2, Lib.hid rfl⟩
            obtain ⟨u, hu0, HU⟩ : ∃ u : Int, 0 ≤ u ∧ Hid (usedTo L 8 = u) := ⟨_, (usedTo_b L 8).1, Lib.hid rfl⟩
            have hus2 : u ≤ room := by rw [← HU.out]; exact hus
            refine wp_run (M := (fun _ => False)) (stages [([true, false, true, false, false, true, false, false], 1), ([false, false, false, false, false, false, false, false], 3)] [false, false, false, false, true, false, true, true]) (by kernel_rfl) (by kernel_rfl) ?_
            refine run_stage rfl ?_
            simp only [pickAt]
            repeat (go_big_quiet_step (fail))
            refine wpQuiet_nil ?_
            refine run_want rfl ?_
            intro A hA
            go_simp
            refine (used_mod M S room L _ HSX.out.drew.d (by omega)).mono ?_
            rintro e w5 ⟨rfl, hb5⟩
            rw [HU.out]
            have HS5 := Lib.hid (HSX.out.drew.below hb5)
            have OX5 := Lib.hid (OX.out.drew.below hb5)
            have OY5 := Lib.hid (OY.out.drew.below hb5)
            have B5 := Lib.hid (HBX.out.drew.trans (hb5.mono hsx))
            have hs5 : B ≤ w5.heap.size := Nat.le_trans hsx hb5.size
            refine hA _ _ ((Kept.of_below hb5)) ?_
            try simp only [Act.put, List.setIfInBounds_toArray, List.set_cons_zero, List.set_cons_succ]
            clear A hA
            clear hb5
            obtain ⟨ly5, cy5, fy5⟩ := OY5.out.blk
            refine run_stage rfl ?_
            simp only [pickAt]
            repeat (go_big_quiet_step (fail))
            refine wpQuiet_nil ?_
            refine run_want rfl ?_
            intro A hA
            go_simp
            refine (size_any ⟨x.n, x.v⟩ _).mono ?_
            rintro e w6 ⟨rfl, hb6⟩
            rw [HSZ.out]
            have HS6 := Lib.hid (HS5.out.below hb6)
            have OX6 := Lib.hid (OX5.out.below hb6)
            have OY6 := Lib.hid (OY5.out.below hb6)
            have B6 := Lib.hid (B5.out.trans (hb6.mono hs5))
            have hs6 : B ≤ w6.heap.size := Nat.le_trans hs5 hb6.size
            refine hA _ _ ((Kept.of_below hb6)) ?_
            try simp only [Act.put, List.setIfInBounds_toArray, List.set_cons_zero, List.set_cons_succ]
            clear A hA
            clear hb6
            refine run_last ?_
            simp only [pickAt]
            repeat (go_big_quiet_step (fail))
            refine wpQuiet_nil ?_
            clear lx cx fx ly cy fy ly5 cy5 fy5
            obtain ⟨lx, cx, fx⟩ := OX6.out.blk
            obtain ⟨ly, cy, fy⟩ := OY6.out.blk
            rcases (by omega : room < u + s ∨ u + s ≤ room) with hfu | hfu
            · have HF := Lib.hid hfu
              go_wp2_with fail
              refine (push_full B B V room (usedTo L 8) L p ⟨x.n, x.v⟩ _ HS6.out.q hp8 ⟨r1, r2⟩ ⟨by rw [HU.out]; exact hu0, hus⟩ (by rw [HU.out, HSZ.out]; omega)).mono ?_
              rintro e w7 ⟨rfl, hb7⟩
              go_wp2_with fail
              go_meet
              exact ⟨V, S, L, HS6.out.below hb7, by omega, hus, B6.out.trans (hb7.mono hs6)⟩
            · have HF := Lib.hid hfu
              go_wp2_with fail
              have hlp := lenTo_ge L p hp8
              refine (push_yes B B V room (usedTo L 8) L p ⟨x.n, x.v⟩ _ HS6.out.q hp8 ⟨r1, r2⟩ ⟨by rw [HU.out]; exact hu0, hus⟩ (by rw [HU.out, HSZ.out]; omega) (by omega)).mono ?_
              rintro e w7 ⟨rfl, V7, hq7, hk7, hf7⟩
              have hq7' : Qu B B V7 room (usedTo (upd L p (L p ++ [⟨x.n, x.v⟩])) 8) (upd L p (L p ++ [⟨x.n, x.v⟩])) w7 := by
                rw [usedTo_upd L p hp8, sumS_app]
                exact (show usedTo L 8 - sumS (L p) + (sumS (L p) + (⟨x.n, x.v⟩ : Bx).sz) = usedTo L 8 + (⟨x.n, x.v⟩ : Bx).sz by omega) ▸ hq7
              have HS7 := Lib.hid (HS6.out.queue hq7' hk7 hf7)
              have hnq : ∀ y, wr.heap.size ≤ y → ¬ QM B V y := fun y hy hm => by have := qlt HST.out.q y hm; omega
              have OX7 := Lib.hid (OX6.out.kept hk7 (hnq _ (Nat.le_refl _)))
              have OY7 := Lib.hid (OY6.out.kept hk7 (hnq _ (by omega)))
              have B7 := Lib.hid (B6.out.trans (HS6.out.q.keptB hk7))
              have hs7 : B ≤ w7.heap.size := Nat.le_trans hs6 hk7.size
              clear hq7 hq7' hk7 hf7 lx cx fx ly cy fy
              obtain ⟨lx, cx, fx⟩ := OX7.out.blk
              obtain ⟨ly, cy, fy⟩ := OY7.out.blk
              obtain ⟨aS, cS, hSp, c1, hc1, hc2⟩ := HS7.out.d.at p hp8
              have lm := HS7.out.d.ob.lt
              have hsl := HS7.out.d.rd p hp8
              rw [hSp] at hsl
              have HSL := Lib.hid hsl
              have HSP := Lib.hid hSp
              clear hsl hSp
              have nx := not_since lx
              have ny := not_since ly
              have nm := not_since lm
              go_wp2_with fail
              refine wp_heads (M := (Since w7.heap.size)) 18 (by kernel_rfl) (by kernel_rfl) ?_
              refine hd_quiet [true, true, true, false, true, true, true, true, true, true, true, false, true, false, false, true, true, false, false] (by kernel_rfl) ?_
              simp only [pickAt]
              repeat (go_big_quiet_step (fail))
              refine wpQuiet_nil ?_
              refine hd_act2 3 13 rfl rfl (by kernel_rfl) ?_ ?_
              · refine run_want rfl ?_
                intro A hA
                go_simp
                have HO := Lib.hid (World.ownsRow_made (base := w7.heap.size) (e := 29) (size := 2) w7.drew #[] 0 (by simp <;> omega) (by decide) rfl)
                try simp only [World.size_alloc] at HO
                refine hA _ _ (((Kept.refl _ _).alloc _)) ?_
                try simp only [Act.put, List.setIfInBounds_toArray, List.set_cons_zero, List.set_cons_succ]
                clear A hA
                refine hd_quiet [false, false, false, false, false, false, false, false, false, false, false, false, false, false, false, false, false, false, false] (by kernel_rfl) ?_
                simp only [pickAt]
                repeat (go_big_quiet_step (fail))
                refine wpQuiet_nil ?_
                refine hd_act2 11 13 rfl rfl (by kernel_rfl) ?_ ?_
                · refine run_want rfl ?_
                  intro A hA
                  have HSR := Lib.hid (Rd.below (w := w7.drew) HSL.out ((Below.refl w7.drew.heap.size w7.drew).alloc (by simp <;> omega) (.cells #[] 29)))
                  refine wp_appS (.tmp 118) (.tmp 125) 36 (by rfl) info_box Try.underlying36 rfl (by decide) HO.out HSR.out (by rfl) (by rfl) (box_one _) (by omega) (by simp <;> omega) ?_
                  intro v8 w8 ho8 hg8
                  have HB8 : Hid (Below w7.heap.size w7.drew w8) := Lib.hid (((Below.refl w7.heap.size w7.drew).alloc (by simp <;> omega) (.cells #[] 29)).grown hg8 (by simp <;> omega) (fun y hy => by have := (HO.out.lt y hy).1; exact this))
                  have hs8 : w7.heap.size ≤ w8.heap.size := HB8.out.size
                  have HO8 := Lib.hid ho8
                  refine hA _ _ (Kept.of_grown (M := Since w7.heap.size) hg8 fun y hy => (HO.out.lt y hy).1) ?_
                  try simp only [Act.put, List.setIfInBounds_toArray, List.set_cons_zero, List.set_cons_succ]
                  clear A hA
                  refine hd_quiet [false, false, false, false, false, false, false, false, false, false, false, false, false, false, false, false, false, false, false] (by kernel_rfl) ?_
                  simp only [pickAt]
                  repeat (go_big_quiet_step (fail))
                  refine wpQuiet_nil ?_
                  refine hd_act 13 rfl (by kernel_rfl) ?_
                  refine run_want rfl ?_
                  intro A hA
                  go_simp
                  have RC := Lib.hid (Rd.one (k := 2) w8 #[.int .i64 x.n, .int .i64 x.v] 29 rfl)
                  have HO8 := Lib.hid (HO8.out.alloc (.cells #[.int .i64 x.n, .int .i64 x.v] 29))
                  refine hA _ _ (((Kept.refl _ _).alloc _)) ?_
                  try simp only [Act.put, List.setIfInBounds_toArray, List.set_cons_zero, List.set_cons_succ]
                  clear A hA
                  refine hd_quiet [false, false, false, false, false, false, false, false, false, false, false, false, false, false, false, false, false, false, false] (by kernel_rfl) ?_
                  simp only [pickAt]
                  repeat (go_big_quiet_step (fail))
                  refine wpQuiet_nil ?_
                  refine hd_act 14 rfl (by kernel_rfl) ?_
                  refine run_want rfl ?_
                  intro A hA
                  refine wp_appS (.tmp 126) (.tmp 128) 36 (by rfl) info_box Try.underlying36 rfl (by decide) HO8.out RC.out (by rfl) (by rfl) (by simp [Value.oneCell']) (by omega) (by have := HO8.out; first | exact hs8 | (simp; omega)) ?_
                  intro v9 w9 ho9 hg9
                  obtain ⟨av, cv, rfl, _, _⟩ := (Rd.of_own ho9).form
                  have HB9 : Hid (Below w7.heap.size w7.drew w9) := Lib.hid ((HB8.out.alloc hs8 (.cells #[.int .i64 x.n, .int .i64 x.v] 29)).grown hg9 (by first | exact hs8 | (simp; omega)) (fun y hy => (HO8.out.lt y hy).1))
                  have HO9 := Lib.hid ho9
                  refine hA _ _ (Kept.of_grown (M := Since w7.heap.size) hg9 fun y hy => (HO8.out.lt y hy).1) ?_
                  try simp only [Act.put, List.setIfInBounds_toArray, List.set_cons_zero, List.set_cons_succ]
                  clear A hA
                  clear ho9 hg9
                  refine hd_quiet [false, false, false, false, false, false, false, false, false, false, false, false, false, false, false, false, false, false, false] (by kernel_rfl) ?_
                  simp only [pickAt]
                  repeat (go_big_quiet_step (fail))
                  refine wpQuiet_nil ?_
                  refine hd_quiet [false, false, false, false, false, false, false, false, false, false, false, false, false, false, false, false, false, true, false] (by kernel_rfl) ?_
                  simp only [pickAt]
                  repeat (go_big_quiet_step (fail))
                  refine wpQuiet_nil ?_
                  have HS9 := Lib.hid (HS7.out.drew.below HB9.out)
                  have HX9 := HS9.out.d.ob.blk
                  obtain ⟨l9, c9, f9⟩ := HX9
                  have cp9 := (c9 (1 + p)).trans (m_get room S p hp8)
                  clear c9
                  refine hd_tail rfl (by kernel_rfl) ?_
                  simp only [List.drop_succ_cons, List.drop_zero]
                  go_wp2_with fail
                  have R9 : Hid (Rd w9 2 (.slice av ((L p).length + 1) cv) (L p ++ [(⟨x.n, x.v⟩ : Bx)]).length ((L p ++ [(⟨x.n, x.v⟩ : Bx)]).flatMap Bx.box)) := Lib.hid (by have := Rd.of_own HO9.out; simpa [Bx.box] using this)
                  have hfit : lenTo (upd L p (L p ++ [(⟨x.n, x.v⟩ : Bx)])) 8 ≤ k + 1 := by have := lenTo_upd L p hp8 (L p ++ [(⟨x.n, x.v⟩ : Bx)]); rw [List.length_append, List.length_singleton] at this; omega
                  have huse : usedTo (upd L p (L p ++ [(⟨x.n, x.v⟩ : Bx)])) 8 ≤ room := by rw [usedTo_upd L p hp8, sumS_app, HU.out, HSZ.out]; have := HF.out; omega
                  have hst := HS9.out.model hp8 R9.out (fun a l c he => by cases he; have h1 := HO9.out.lt _ rfl; exact ⟨fun hm => by have := qlt HS7.out.q _ hm; omega, by omega, h1.2⟩)
                  have hbe := B7.out.drew.trans (HB9.out.mono hs7)
                  refine NoPanic.normal ?_
                  go_wp2_with fail
                  go_meet
                  exact ⟨_, _, _, hst, hfit, huse, below_setM hbe (by have := HST.out.mB; omega)⟩
                · refine run_want rfl ?_
                  intro A hA
                  go_simp
                  have RC := Lib.hid (Rd.one (k := 2) (w7.drew.alloc (.cells #[] 29)) #[.int .i64 x.n, .int .i64 x.v] 29 rfl)
                  try simp only [World.size_alloc] at RC
                  have HO := Lib.hid (HO.out.alloc (.cells #[.int .i64 x.n, .int .i64 x.v] 29))
                  refine hA _ _ (((Kept.refl _ _).alloc _)) ?_
                  try simp only [Act.put, List.setIfInBounds_toArray, List.set_cons_zero, List.set_cons_succ]
                  clear A hA
                  refine hd_quiet [false, false, false, false, false, false, false, false, false, false, false, false, false, false, false, false, false, false, false] (by kernel_rfl) ?_
                  simp only [pickAt]
                  repeat (go_big_quiet_step (fail))
                  refine wpQuiet_nil ?_
                  refine hd_act 11 rfl (by kernel_rfl) ?_
                  refine run_want rfl ?_
                  intro A hA
                  have HSR := Lib.hid (Rd.below (w := w7.drew) HSL.out (((Below.refl w7.drew.heap.size w7.drew).alloc (by simp <;> omega) (.cells #[] 29)).alloc (by simp <;> omega) (.cells #[.int .i64 x.n, .int .i64 x.v] 29)))
                  refine wp_appS (.tmp 118) (.tmp 125) 36 (by rfl) info_box Try.underlying36 rfl (by decide) HO.out HSR.out (by rfl) (by rfl) (box_one _) (by omega) (by simp <;> omega) ?_
                  intro v8 w8 ho8 hg8
                  have HB8 : Hid (Below w7.heap.size w7.drew w8) := Lib.hid ((((Below.refl w7.heap.size w7.drew).alloc (by simp <;> omega) (.cells #[] 29)).alloc (by simp <;> omega) (.cells #[.int .i64 x.n, .int .i64 x.v] 29)).grown hg8 (by simp <;> omega) (fun y hy => by have := (HO.out.lt y hy).1; exact this))
                  have hs8 : w7.heap.size ≤ w8.heap.size := HB8.out.size
                  have HO8 := Lib.hid ho8
                  have RC := Lib.hid (RC.out.kept (Kept.of_grown (M := Lm (.slice (some ⟨w7.heap.size, 0, none⟩) 0 0)) hg8 fun y hy => hy) (fun a l c he hm => by cases he; have := hm; simp [Lm, Value.ownBlock] at this))
                  refine hA _ _ (Kept.of_grown (M := Since w7.heap.size) hg8 fun y hy => (HO.out.lt y hy).1) ?_
                  try simp only [Act.put, List.setIfInBounds_toArray, List.set_cons_zero, List.set_cons_succ]
                  clear A hA
                  refine hd_quiet [false, false, false, false, false, false, false, false, false, false, false, false, false, false, false, false, false, false, false] (by kernel_rfl) ?_
                  simp only [pickAt]
                  repeat (go_big_quiet_step (fail))
                  refine wpQuiet_nil ?_
                  refine hd_act 14 rfl (by kernel_rfl) ?_
                  refine run_want rfl ?_
                  intro A hA
                  refine wp_appS (.tmp 126) (.tmp 128) 36 (by rfl) info_box Try.underlying36 rfl (by decide) HO8.out RC.out (by rfl) (by rfl) (by simp [Value.oneCell']) (by omega) (by have := HO8.out; first | exact hs8 | (simp; omega)) ?_
                  intro v9 w9 ho9 hg9
                  obtain ⟨av, cv, rfl, _, _⟩ := (Rd.of_own ho9).form
                  have HB9 : Hid (Below w7.heap.size w7.drew w9) := Lib.hid (HB8.out.grown hg9 (by first | exact hs8 | (simp; omega)) (fun y hy => (HO8.out.lt y hy).1))
                  have HO9 := Lib.hid ho9
                  refine hA _ _ (Kept.of_grown (M := Since w7.heap.size) hg9 fun y hy => (HO8.out.lt y hy).1) ?_
                  try simp only [Act.put, List.setIfInBounds_toArray, List.set_cons_zero, List.set_cons_succ]
                  clear A hA
                  clear ho9 hg9
                  refine hd_quiet [false, false, false, false, false, false, false, false, false, false, false, false, false, false, false, false, false, false, false] (by kernel_rfl) ?_
                  simp only [pickAt]
                  repeat (go_big_quiet_step (fail))
                  refine wpQuiet_nil ?_
                  refine hd_quiet [false, false, false, false, false, false, false, false, false, false, false, false, false, false, false, false, false, true, false] (by kernel_rfl) ?_
                  simp only [pickAt]
                  repeat (go_big_quiet_step (fail))
                  refine wpQuiet_nil ?_
                  have HS9 := Lib.hid (HS7.out.drew.below HB9.out)
                  have HX9 := HS9.out.d.ob.blk
                  obtain ⟨l9, c9, f9⟩ := HX9
                  have cp9 := (c9 (1 + p)).trans (m_get room S p hp8)
                  clear c9
                  refine hd_tail rfl (by kernel_rfl) ?_
                  simp only [List.drop_succ_cons, List.drop_zero]
                  go_wp2_with fail
                  have R9 : Hid (Rd w9 2 (.slice av ((L p).length + 1) cv) (L p ++ [(⟨x.n, x.v⟩ : Bx)]).length ((L p ++ [(⟨x.n, x.v⟩ : Bx)]).flatMap Bx.box)) := Lib.hid (by have := Rd.of_own HO9.out; simpa [Bx.box] using this)
                  have hfit : lenTo (upd L p (L p ++ [(⟨x.n, x.v⟩ : Bx)])) 8 ≤ k + 1 := by have := lenTo_upd L p hp8 (L p ++ [(⟨x.n, x.v⟩ : Bx)]); rw [List.length_append, List.length_singleton] at this; omega
                  have huse : usedTo (upd L p (L p ++ [(⟨x.n, x.v⟩ : Bx)])) 8 ≤ room := by rw [usedTo_upd L p hp8, sumS_app, HU.out, HSZ.out]; have := HF.out; omega
                  have hst := HS9.out.model hp8 R9.out (fun a l c he => by cases he; have h1 := HO9.out.lt _ rfl; exact ⟨fun hm => by have := qlt HS7.out.q _ hm; omega, by omega, h1.2⟩)
                  have hbe := B7.out.drew.trans (HB9.out.mono hs7)
                  refine NoPanic.normal ?_
                  go_wp2_with fail
                  go_meet
                  exact ⟨_, _, _, hst, hfit, huse, below_setM hbe (by have := HST.out.mB; omega)⟩
              · refine run_want rfl ?_
                intro A hA
                go_simp
                have RC := Lib.hid (Rd.one (k := 2) w7.drew #[.int .i64 x.n, .int .i64 x.v] 29 rfl)
                refine hA _ _ (((Kept.refl _ _).alloc _)) ?_
                try simp only [Act.put, List.setIfInBounds_toArray, List.set_cons_zero, List.set_cons_succ]
                clear A hA
                refine hd_quiet [false, false, false, false, false, false, false, false, false, false, false, false, false, false, false, false, false, false, false] (by kernel_rfl) ?_
                simp only [pickAt]
                repeat (go_big_quiet_step (fail))
                refine wpQuiet_nil ?_
                refine hd_act 3 rfl (by kernel_rfl) ?_
                refine run_want rfl ?_
                intro A hA
                go_simp
                have HO := Lib.hid (World.ownsRow_made (base := w7.heap.size) (e := 29) (size := 2) (w7.drew.alloc (.cells #[.int .i64 x.n, .int .i64 x.v] 29)) #[] 0 (by simp <;> omega) (by decide) rfl)
                try simp only [World.size_alloc] at HO
                have RC := Lib.hid (RC.out.alloc (.cells #[] 29))
                refine hA _ _ (((Kept.refl _ _).alloc _)) ?_
                try simp only [Act.put, List.setIfInBounds_toArray, List.set_cons_zero, List.set_cons_succ]
                clear A hA
                refine hd_quiet [false, false, false, false, false, false, false, false, false, false, false, false, false, false, false, false, false, false, false] (by kernel_rfl) ?_
                simp only [pickAt]
                repeat (go_big_quiet_step (fail))
                refine wpQuiet_nil ?_
                refine hd_act 11 rfl (by kernel_rfl) ?_
                refine run_want rfl ?_
                intro A hA
                have HSR := Lib.hid (Rd.below (w := w7.drew) HSL.out (((Below.refl w7.drew.heap.size w7.drew).alloc (by simp <;> omega) (.cells #[.int .i64 x.n, .int .i64 x.v] 29)).alloc (by simp <;> omega) (.cells #[] 29)))
                refine wp_appS (.tmp 118) (.tmp 125) 36 (by rfl) info_box Try.underlying36 rfl (by decide) HO.out HSR.out (by rfl) (by rfl) (box_one _) (by omega) (by simp <;> omega) ?_
                intro v8 w8 ho8 hg8
                have HB8 : Hid (Below w7.heap.size w7.drew w8) := Lib.hid ((((Below.refl w7.heap.size w7.drew).alloc (by simp <;> omega) (.cells #[.int .i64 x.n, .int .i64 x.v] 29)).alloc (by simp <;> omega) (.cells #[] 29)).grown hg8 (by simp <;> omega) (fun y hy => by have := (HO.out.lt y hy).1; exact this))
                have hs8 : w7.heap.size ≤ w8.heap.size := HB8.out.size
                have HO8 := Lib.hid ho8
                have RC := Lib.hid (RC.out.kept (Kept.of_grown (M := Lm (.slice (some ⟨w7.heap.size + 1, 0, none⟩) 0 0)) hg8 fun y hy => hy) (fun a l c he hm => by cases he; have := hm; simp [Lm, Value.ownBlock] at this))
                refine hA _ _ (Kept.of_grown (M := Since w7.heap.size) hg8 fun y hy => (HO.out.lt y hy).1) ?_
                try simp only [Act.put, List.setIfInBounds_toArray, List.set_cons_zero, List.set_cons_succ]
                clear A hA
                refine hd_quiet [false, false, false, false, false, false, false, false, false, false, false, false, false, false, false, false, false, false, false] (by kernel_rfl) ?_
                simp only [pickAt]
                repeat (go_big_quiet_step (fail))
                refine wpQuiet_nil ?_
                refine hd_act 14 rfl (by kernel_rfl) ?_
                refine run_want rfl ?_
                intro A hA
                refine wp_appS (.tmp 126) (.tmp 128) 36 (by rfl) info_box Try.underlying36 rfl (by decide) HO8.out RC.out (by rfl) (by rfl) (by simp [Value.oneCell']) (by omega) (by have := HO8.out; first | exact hs8 | (simp; omega)) ?_
                intro v9 w9 ho9 hg9
                obtain ⟨av, cv, rfl, _, _⟩ := (Rd.of_own ho9).form
                have HB9 : Hid (Below w7.heap.size w7.drew w9) := Lib.hid (HB8.out.grown hg9 (by first | exact hs8 | (simp; omega)) (fun y hy => (HO8.out.lt y hy).1))
                have HO9 := Lib.hid ho9
                refine hA _ _ (Kept.of_grown (M := Since w7.heap.size) hg9 fun y hy => (HO8.out.lt y hy).1) ?_
                try simp only [Act.put, List.setIfInBounds_toArray, List.set_cons_zero, List.set_cons_succ]
                clear A hA
                clear ho9 hg9
                refine hd_quiet [false, false, false, false, false, false, false, false, false, false, false, false, false, false, false, false, false, false, false] (by kernel_rfl) ?_
                simp only [pickAt]
                repeat (go_big_quiet_step (fail))
                refine wpQuiet_nil ?_
                refine hd_quiet [false, false, false, false, false, false, false, false, false, false, false, false, false, false, false, false, false, true, false] (by kernel_rfl) ?_
                simp only [pickAt]
                repeat (go_big_quiet_step (fail))
                refine wpQuiet_nil ?_
                have HS9 := Lib.hid (HS7.out.drew.below HB9.out)
                have HX9 := HS9.out.d.ob.blk
                obtain ⟨l9, c9, f9⟩ := HX9
                have cp9 := (c9 (1 + p)).trans (m_get room S p hp8)
                clear c9
                refine hd_tail rfl (by kernel_rfl) ?_
                simp only [List.drop_succ_cons, List.drop_zero]
                go_wp2_with fail
                have R9 : Hid (Rd w9 2 (.slice av ((L p).length + 1) cv) (L p ++ [(⟨x.n, x.v⟩ : Bx)]).length ((L p ++ [(⟨x.n, x.v⟩ : Bx)]).flatMap Bx.box)) := Lib.hid (by have := Rd.of_own HO9.out; simpa [Bx.box] using this)
                have hfit : lenTo (upd L p (L p ++ [(⟨x.n, x.v⟩ : Bx)])) 8 ≤ k + 1 := by have := lenTo_upd L p hp8 (L p ++ [(⟨x.n, x.v⟩ : Bx)]); rw [List.length_append, List.length_singleton] at this; omega
                have huse : usedTo (upd L p (L p ++ [(⟨x.n, x.v⟩ : Bx)])) 8 ≤ room := by rw [usedTo_upd L p hp8, sumS_app, HU.out, HSZ.out]; have := HF.out; omega
                have hst := HS9.out.model hp8 R9.out (fun a l c he => by cases he; have h1 := HO9.out.lt _ rfl; exact ⟨fun hm => by have := qlt HS7.out.q _ hm; omega, by omega, h1.2⟩)
                have hbe := B7.out.drew.trans (HB9.out.mono hs7)
                refine NoPanic.normal ?_
                go_wp2_with fail
                go_meet
                exact ⟨_, _, _, hst, hfit, huse, below_setM hbe (by have := HST.out.mB; omega)⟩
-->K1
        · have kb1 : (x.kind == 1) = false := beq_eq_false_iff_ne.2 hk1
          by_cases hk2 : x.kind = 2
--<K2
          · as_aux_lemma =>
            have kb2 : (x.kind == 2) = true := beq_iff_eq.2 hk2
            clear hk1 hk2
            have hu2 : usedTo L 8 ≤ 1099511627776 := by omega
            have hux : ∀ p x r, p < 8 → L p = x :: r → x.sz ≤ usedTo L 8 := fun p x r hp hl => by
              have e1 := sumS_le L p hp
              rw [hl, sumS_cons] at e1
              have e2 := (sumS_b r).1
              omega
            have HUX := Lib.hid hux
            clear hux
            go_wp2_with fail
            refine (pop_any B B V room (usedTo L 8) L _ HSX.out.q HUX.out hu2).mono ?_
            rintro e w5 (⟨rfl, hn, hb5⟩ | ⟨p, y, r, V5, hp8, hlp, habove, rfl, hq5, hk5, hf5⟩)
            · have HN := Lib.hid hn
              have HS5 := Lib.hid ((HSX.out.below hb5).alloc (.cells #[.int .i64 0, .int .i64 0] 29))
              have B5 := Lib.hid ((HBX.out.trans (hb5.mono hsx)).alloc (Nat.le_trans hsx hb5.size) (.cells #[.int .i64 0, .int .i64 0] 29))
              clear hb5 hn
              unfold noBox
              go_wp2_with fail
              refine (first_mod M S room L _ HS5.out.d).mono ?_
              rintro e w6 ⟨t, rfl, ht, rfl⟩
              have ht1 : t = -1 := by
                rcases ht with ⟨h, _⟩ | ⟨q, rfl, hq, hne, _⟩
                · exact h
                · exact absurd (HN.out q hq) hne
              subst ht1
              go_wp2_with fail
              go_meet
              exact ⟨V, S, L, HS5.out, by omega, hus, B5.out⟩
            · have HLP := Lib.hid hlp
              have HAB := Lib.hid habove
              have hq5' : Qu B B V5 room (usedTo (upd L p r) 8) (upd L p r) w5 := by
                have e1 := usedTo_upd L p hp8 r
                rw [hlp, sumS_cons] at e1
                rw [e1, show usedTo L 8 - (y.sz + sumS r) + sumS r = usedTo L 8 - y.sz by omega]
                exact hq5
              have HS5 := Lib.hid ((HSX.out.queue hq5' hk5 hf5).alloc (.cells #[.int .i64 y.n, .int .i64 y.v] 29))
              have B5 := Lib.hid ((HBX.out.trans (HSX.out.q.keptB hk5)).alloc (Nat.le_trans hsx hk5.size) (.cells #[.int .i64 y.n, .int .i64 y.v] 29))
              have OZ := Lib.hid (Ob.new w5 #[.int .i64 y.n, .int .i64 y.v] 29)
              have hs5 : B ≤ (w5.alloc (.cells #[.int .i64 y.n, .int .i64 y.v] 29)).heap.size := by have := hk5.size; rw [World.size_alloc]; omega
              have hln5 : lenTo (upd L p r) 8 ≤ k + 1 := by
                have := lenTo_upd L p hp8 r
                rw [hlp, List.length_cons] at this; omega
              have hus5 : usedTo (upd L p r) 8 ≤ room := by
                have e1 := usedTo_upd L p hp8 r
                rw [hlp, sumS_cons] at e1
                have := szBx y
                omega
              clear hq5 hq5' hk5 hf5 hlp habove
              unfold boxV
              go_wp2_with fail
              refine (first_mod M S room L _ HS5.out.d).mono ?_
              rintro e w6 ⟨t, rfl, ht, rfl⟩
              have ht1 : t = (p : Int) := by
                rcases ht with ⟨_, h⟩ | ⟨q, rfl, hq, hne, hab⟩
                · have := h p hp8; rw [HLP.out] at this; cases this
                · have h1 : ¬ p < q := fun hh => hne (HAB.out q hh hq)
                  have h2 : ¬ q < p := fun hh => by have := hab p hh hp8; rw [HLP.out] at this; cases this
                  omega
              subst ht1
              clear ht
              generalize w5.alloc (.cells #[.int .i64 y.n, .int .i64 y.v] 29) = wz at *
              generalize w5.heap.size = Z at *
              obtain ⟨aS, cS, hSp, c1, hc1, hc2⟩ := HS5.out.d.at p hp8
              have hsl := HS5.out.d.rd p hp8
              rw [hSp] at hsl
              have hll : (L p).length = r.length + 1 := by rw [HLP.out]; rfl
              obtain ⟨bS, oS, rfl, hbS, cw⟩ := Rd.row rowBox (by decide) hsl 0 (by omega)
              have he0 : (L p)[0]'(by omega) = y := by simp [HLP.out]
              rw [he0] at cw
              have d0 := cw 0 (.int .i64 y.n) rfl
              have d1 := cw 1 (.int .i64 y.v) rfl
              rw [Nat.zero_mul, Nat.add_zero] at d0 d1
              have HSL := Lib.hid hsl
              have HSP := Lib.hid hSp
              have hl0 : (0 : Int) < (L p).length := by omega
              clear cw hsl hSp he0 lx cx fx ly cy fy
              have lm := HS5.out.d.ob.lt
              obtain ⟨lz, cz, fz⟩ := OZ.out.blk
              go_wp2_with fail
              refine wp_region_quiet_lit (by kernel_rfl) (by kernel_rfl) ?_
              repeat (first | go_big_quiet_step (fail) | quiet_step (fail))
              refine wpQuiet_nil ?_
              intro W hW
              have hkW : Below wz.heap.size wz W := by obtain ⟨n, rfl⟩ := hW; exact below_dn (Below.refl _ _)
              have HS6 := Lib.hid (HS5.out.below hkW)
              have B6 := Lib.hid (B5.out.trans (hkW.mono hs5))
              have HSL6 := Lib.hid (HSL.out.below hkW)
              clear hW hkW c1 d0 d1 lm lz cz fz
              obtain ⟨_, cS2, hSp2, c1, _, _⟩ := HS6.out.d.at p hp8
              rw [HSP.out] at hSp2
              cases hSp2
              have lm := HS6.out.d.ob.lt
              have fm := HS6.out.d.ob.blk.2.2
              rcases (by omega : cS = 1 ∨ 1 < cS) with hcS | hcS
              · have hcb : (cS == 1) = true := beq_iff_eq.2 hcS
                go_wp2_with fail
                refine wp_heads (M := (fun _ => False)) 12 (by kernel_rfl) (by kernel_rfl) ?_
                refine hd_quiet [true, true, true, true, true, true, true, true, true, true, true, true, false] (by kernel_rfl) ?_
                simp only [pickAt]
                repeat (go_big_quiet_step (fail))
                refine wpQuiet_nil ?_
                refine hd_tail rfl (by kernel_rfl) ?_
                simp only [List.drop_succ_cons, List.drop_zero]
                go_wp2_with fail
                have R9 : Hid (Rd W 2 (.slice (some ⟨bS, oS, none⟩) r.length 0) r.length (r.flatMap Bx.box)) := by
                  have h9 := HSL6.out.sub 1 (L p).length (by omega) (Nat.le_refl _)
                  rw [hll, Nat.add_sub_cancel, HLP.out, drop_box] at h9
                  exact Lib.hid (by simpa [slAddr, hcS] using h9)
                have hap := (HS6.out.ap p hp8 _ _ _ HSP.out)
                have hst := (HS6.out.model hp8 R9.out (fun a l c he => by cases he; exact hap)).drew
                have hbe := (below_setM (a := ⟨M, 1 + p, none⟩) (v := .slice (some ⟨bS, oS, none⟩) r.length 0) B6.out (by have := HST.out.mB; exact this)).drew
                refine NoPanic.normal ?_
                go_wp2_with fail
                go_meet
                exact ⟨_, _, _, hst, hln5, hus5, hbe⟩
              · have hcb : (cS == 1) = false := beq_eq_false_iff_ne.2 (by omega)
                have hcn : cS ≠ 1 := by omega
                go_wp2_with fail
                refine wp_heads (M := (fun _ => False)) 12 (by kernel_rfl) (by kernel_rfl) ?_
                refine hd_quiet [true, true, true, true, true, true, true, true, true, true, true, true, false] (by kernel_rfl) ?_
                simp only [pickAt]
                repeat (go_big_quiet_step (fail))
                refine wpQuiet_nil ?_
                refine hd_tail rfl (by kernel_rfl) ?_
                simp only [List.drop_succ_cons, List.drop_zero]
                go_wp2_with fail
                have R9 : Hid (Rd W 2 (.slice (some ⟨bS, oS + 2, none⟩) r.length (cS - 1)) r.length (r.flatMap Bx.box)) := by
                  have h9 := HSL6.out.sub 1 (L p).length (by omega) (Nat.le_refl _)
                  rw [hll, Nat.add_sub_cancel, HLP.out, drop_box] at h9
                  exact Lib.hid (by simpa [slAddr, hcn, addr_add] using h9)
                have hap := (HS6.out.ap p hp8 _ _ _ HSP.out)
                have hst := (HS6.out.model hp8 R9.out (fun a l c he => by cases he; exact hap)).drew
                have hbe := (below_setM (a := ⟨M, 1 + p, none⟩) (v := .slice (some ⟨bS, oS + 2, none⟩) r.length (cS - 1)) B6.out (by have := HST.out.mB; exact this)).drew
                refine NoPanic.normal ?_
                go_wp2_with fail
                go_meet
                exact ⟨_, _, _, hst, hln5, hus5, hbe⟩
-->K2
          · by_cases hk3 : x.kind = 3
--<K3
            · as_aux_lemma =>
              have kb2 : (x.kind == 2) = false := beq_eq_false_iff_ne.2 hk2
              have kb3 : (x.kind == 3) = true := beq_iff_eq.2 hk3
              clear hk1 hk2 hk3
              rcases (by omega : (x.prio < 0 ∨ 8 ≤ x.prio) ∨ (0 ≤ x.prio ∧ x.prio < 8)) with hp | hp
              · have hm : decide (0 ≤ x.prio ∧ x.prio < 8) = false := by simp; omega
                have HC := Lib.hid hp
                clear hp
                go_wp2_with fail
                refine (remove_no B B V room (usedTo L 8) L x.prio x.n _ HSX.out.q (by have := HC.out; omega)).mono ?_
                rintro e w5 ⟨rfl, hb5⟩
                have HS5 := Lib.hid ((HSX.out.below hb5).alloc (.cells #[.int .i64 0, .int .i64 0] 29))
                have B5 := Lib.hid ((HBX.out.trans (hb5.mono hsx)).alloc (Nat.le_trans hsx hb5.size) (.cells #[.int .i64 0, .int .i64 0] 29))
                clear hb5
                unfold noBox
                go_wp2_with fail
                refine wp_region_quiet_lit (by kernel_rfl) (by kernel_rfl) ?_
                repeat (first | go_big_quiet_step (fail) | quiet_step (fail))
                refine wpQuiet_nil ?_
                intro W hW
                have hkW : Below (w5.alloc (.cells #[.int .i64 0, .int .i64 0] 29)).heap.size (w5.alloc (.cells #[.int .i64 0, .int .i64 0] 29)) W := by obtain ⟨n, rfl⟩ := hW; exact below_dn (Below.refl _ _)
                have HS6 := Lib.hid (HS5.out.below hkW)
                have B6 := Lib.hid (B5.out.trans (hkW.mono (by have := B5.out.size; rw [HBQ.out] at this; exact this)))
                clear hkW hW
                go_wp2_with fail
                go_meet
                exact ⟨V, S, L, HS6.out, by omega, hus, B6.out⟩
              · have hm : decide (0 ≤ x.prio ∧ x.prio < 8) = true := decide_eq_true hp
                obtain ⟨p, HPP, hp8⟩ : ∃ p : Nat, Hid (x.prio = (p : Int)) ∧ p < 8 := ⟨x.prio.toNat, Lib.hid (by omega), by omega⟩
                clear hp
                rw [HPP.out] at OX
                clear lx cx fx
                obtain ⟨lx, cx, fx⟩ := OX.out.blk
                have hpi : (p : Int) < 8 := by omega
                rcases (by omega : x.n < 0 ∨ (0 ≤ x.n ∧ ((L p).length : Int) ≤ x.n) ∨ (0 ≤ x.n ∧ x.n < (L p).length)) with hn | ⟨hn, hn'⟩ | ⟨hn, hn'⟩
                iterate 2
                  · have HC : Hid (x.n < 0 ∨ ((L p).length : Int) ≤ x.n) := Lib.hid (by omega)
                    try have hd0 : decide (0 ≤ x.n) = false := by simp; omega
                    try have hd1 : decide (0 ≤ x.n) = true := by simp; omega
                    try have hd2 : decide (x.n < (L p).length) = false := by simp; omega
                    go_wp2_with fail
                    refine (remove_no B B V room (usedTo L 8) L p x.n _ HSX.out.q (by have := HC.out; rw [Int.toNat_natCast]; omega)).mono ?_
                    rintro e w5 ⟨rfl, hb5⟩
                    have HS5 := Lib.hid ((HSX.out.below hb5).alloc (.cells #[.int .i64 0, .int .i64 0] 29))
                    have B5 := Lib.hid ((HBX.out.trans (hb5.mono hsx)).alloc (Nat.le_trans hsx hb5.size) (.cells #[.int .i64 0, .int .i64 0] 29))
                    have OX5 := Lib.hid ((OX.out.below hb5).alloc (.cells #[.int .i64 0, .int .i64 0] 29))
                    clear hb5 lx cx fx ly cy fy
                    obtain ⟨aS, cS, hSp, c1, hc1, hc2⟩ := HS5.out.d.at p hp8
                    have HSP := Lib.hid hSp
                    clear hSp
                    have lm := HS5.out.d.ob.lt
                    obtain ⟨lx, cx, fx⟩ := OX5.out.blk
                    unfold noBox
                    go_wp2_with fail
                    generalize w5.alloc (.cells #[.int .i64 0, .int .i64 0] 29) = wz at *
                    refine wp_region_quiet_lit (by kernel_rfl) (by kernel_rfl) ?_
                    repeat (first | go_big_quiet_step (fail) | quiet_step (fail))
                    refine wpQuiet_nil ?_
                    intro W hW
                    have hkW : Below wz.heap.size wz W := by obtain ⟨n, rfl⟩ := hW; exact below_dn (Below.refl _ _)
                    have HS6 := Lib.hid (HS5.out.below hkW)
                    have B6 := Lib.hid (B5.out.trans (hkW.mono (by have := B5.out.size; rw [HBQ.out] at this; exact this)))
                    clear hkW hW
                    go_wp2_with fail
                    go_meet
                    exact ⟨V, S, L, HS6.out, by omega, hus, B6.out⟩
                · obtain ⟨q, HQN⟩ : ∃ q : Nat, Hid (x.n = (q : Int)) := ⟨x.n.toNat, Lib.hid (by omega)⟩
                  have hq : q < (L p).length := by have := HQN.out; omega
                  have hqi : (q : Int) < (L p).length := by omega
                  rw [HQN.out] at OX
                  clear hn hn' lx cx fx
                  obtain ⟨lx, cx, fx⟩ := OX.out.blk
                  have hsz : (L p)[q].sz ≤ usedTo L 8 := Int.le_trans (sz_le _ _ hq) (sumS_le L p hp8)
                  have HSZ := Lib.hid hsz
                  clear hsz
                  have hu2 : usedTo L 8 ≤ 1099511627776 := by omega
                  go_wp2_with fail
                  refine (remove_yes B B V room (usedTo L 8) L p q _ HSX.out.q hp8 hq ⟨HSZ.out, hu2⟩).mono ?_
                  rintro e w5 ⟨rfl, V5, hq5, hk5, hf5⟩
                  generalize hN : (L p).take q ++ (L p).drop (q + 1) = N at *
                  have HNE := Lib.hid hN
                  generalize hy : (L p)[q] = y at *
                  have HYE := Lib.hid hy
                  have hq5' : Qu B B V5 room (usedTo (upd L p N) 8) (upd L p N) w5 := by
                    have e1 := usedTo_upd L p hp8 N
                    have e2 := sumS_cut (L p) q hq
                    rw [hN, hy] at e2
                    rw [e1, show usedTo L 8 - sumS (L p) + sumS N = usedTo L 8 - y.sz by omega]
                    exact hq5
                  have HS5 := Lib.hid ((HSX.out.queue hq5' hk5 hf5).alloc (.cells #[.int .i64 y.n, .int .i64 y.v] 29))
                  have B5 := Lib.hid ((HBX.out.trans (HSX.out.q.keptB hk5)).alloc (Nat.le_trans hsx hk5.size) (.cells #[.int .i64 y.n, .int .i64 y.v] 29))
                  have OZ := Lib.hid (Ob.new w5 #[.int .i64 y.n, .int .i64 y.v] 29)
                  have hnq : ∀ z, wr.heap.size ≤ z → ¬ QM B V z := fun z hz hm => by have := qlt HST.out.q z hm; omega
                  have OX5 := Lib.hid ((OX.out.kept hk5 (hnq _ (Nat.le_refl _))).alloc (.cells #[.int .i64 y.n, .int .i64 y.v] 29))
                  have hs5 : B ≤ (w5.alloc (.cells #[.int .i64 y.n, .int .i64 y.v] 29)).heap.size := by have := hk5.size; rw [World.size_alloc]; omega
                  have hNl : N.length + 1 = (L p).length := by rw [← hN, List.length_append, List.length_take, List.length_drop]; omega
                  have hln5 : lenTo (upd L p N) 8 ≤ k + 1 := by have := lenTo_upd L p hp8 N; omega
                  have hus5 : usedTo (upd L p N) 8 ≤ room := by
                    have e1 := usedTo_upd L p hp8 N
                    have e2 := sumS_cut (L p) q hq
                    rw [hN, hy] at e2
                    have := szBx y
                    omega
                  clear hq5 hq5' hk5 hf5 hN hy lx cx fx ly cy fy
                  obtain ⟨aS, cS, hSp, c1, hc1, hc2⟩ := HS5.out.d.at p hp8
                  have hsl := HS5.out.d.rd p hp8
                  rw [hSp] at hsl
                  obtain ⟨bS, oS, rfl, hbS, cw⟩ := Rd.row rowBox (by decide) hsl q hq
                  rw [HYE.out] at cw
                  have d0 := cw 0 (.int .i64 y.n) rfl
                  have d1 := cw 1 (.int .i64 y.v) rfl
                  rw [Nat.add_zero] at d0
                  have HSL := Lib.hid hsl
                  have HSP := Lib.hid hSp
                  clear cw hsl hSp
                  have lm := HS5.out.d.ob.lt
                  obtain ⟨lx, cx, fx⟩ := OX5.out.blk
                  obtain ⟨lz, cz, fz⟩ := OZ.out.blk
                  unfold boxV
                  go_wp2_with fail
                  generalize w5.alloc (.cells #[.int .i64 y.n, .int .i64 y.v] 29) = wz at *
                  refine wp_region_quiet_lit (by kernel_rfl) (by kernel_rfl) ?_
                  repeat (first | go_big_quiet_step (fail) | quiet_step (fail))
                  refine wpQuiet_nil ?_
                  intro W hW
                  have hkW : Below wz.heap.size wz W := by obtain ⟨n, rfl⟩ := hW; exact below_dn (Below.refl _ _)
                  have HS6 := Lib.hid (HS5.out.below hkW)
                  have hs6 : B ≤ W.heap.size := Nat.le_trans hs5 hkW.size
                  have B6 := Lib.hid (B5.out.trans (hkW.mono hs5))
                  have HSL6 := Lib.hid (HSL.out.below hkW)
                  have OX6 := Lib.hid (OX5.out.below hkW)
                  have OZ6 := Lib.hid (OZ.out.below hkW)
                  clear hkW hW c1 d0 d1 lm lx cx fx lz cz fz
                  obtain ⟨_, cS', hSp', c1, _, _⟩ := HS6.out.d.at p hp8
                  rw [HSP.out] at hSp'
                  cases hSp'
                  obtain ⟨_, _, he', hbS, cw⟩ := Rd.row rowBox (by decide) HSL6.out q hq
                  cases he'
                  rw [HYE.out] at cw
                  have d0 := cw 0 (.int .i64 y.n) rfl
                  have d1 := cw 1 (.int .i64 y.v) rfl
                  rw [Nat.add_zero] at d0
                  clear cw
                  have lm := HS6.out.d.ob.lt
                  obtain ⟨lx, cx, fx⟩ := OX6.out.blk
                  obtain ⟨lz, cz, fz⟩ := OZ6.out.blk
                  go_wp2_with fail
                  refine wp_region_quiet_lit (by kernel_rfl) (by kernel_rfl) ?_
                  repeat (first | go_big_quiet_step (fail) | quiet_step (fail))
                  refine wpQuiet_nil ?_
                  intro W2 hW2
                  have hkW2 : Below W.heap.size W W2 := by obtain ⟨n, rfl⟩ := hW2; exact below_dn (Below.refl _ _)
                  have HS7 := Lib.hid (HS6.out.below hkW2)
                  have hs7 : B ≤ W2.heap.size := Nat.le_trans hs6 hkW2.size
                  have B7 := Lib.hid (B6.out.trans (hkW2.mono hs6))
                  have HSL7 := Lib.hid (HSL6.out.below hkW2)
                  have OX7 := Lib.hid (OX6.out.below hkW2)
                  have OZ7 := Lib.hid (OZ6.out.below hkW2)
                  clear hkW2 hW2 c1 d0 d1 lm lx cx fx lz cz fz
                  obtain ⟨_, cS', hSp', c1, _, _⟩ := HS7.out.d.at p hp8
                  rw [HSP.out] at hSp'
                  cases hSp'
                  obtain ⟨_, _, he', hbS, cw⟩ := Rd.row rowBox (by decide) HSL7.out q hq
                  cases he'
                  rw [HYE.out] at cw
                  have d0 := cw 0 (.int .i64 y.n) rfl
                  have d1 := cw 1 (.int .i64 y.v) rfl
                  rw [Nat.add_zero] at d0
                  clear cw
                  have lm := HS7.out.d.ob.lt
                  obtain ⟨lx, cx, fx⟩ := OX7.out.blk
                  obtain ⟨lz, cz, fz⟩ := OZ7.out.blk
                  go_wp2_with fail
                  have hlp := lenTo_ge L p hp8
                  have nm := not_since lm
                  have nx := not_since lx
                  rcases (by omega : cS = q + 1 ∨ q + 1 < cS) with hcS | hcS
                  · subst hcS
                    refine wp_heads (M := (Since W2.heap.size)) 30 (by kernel_rfl) (by kernel_rfl) ?_
                    refine hd_quiet [true, true, true, false, true, true, true, true, true, true, true, true, true, true, false, true, true, true, true, true, true, true, true, true, true, true, false, true, true, false, false] (by kernel_rfl) ?_
                    simp only [pickAt]
                    repeat (go_big_quiet_step (fail))
                    refine wpQuiet_nil ?_
                    refine hd_act 3 rfl (by kernel_rfl) ?_
                    refine run_want rfl ?_
                    intro A hA
                    go_simp
                    have HO := Lib.hid (World.ownsRow_made (base := W2.heap.size) (e := 29) (size := 2) W2.drew #[] 0 (by simp <;> omega) (by decide) rfl)
                    have RT0 := Rd.alloc (w := W2.drew) (rd_first HSL7.out q (by omega) (by omega)) (.cells #[] 29)
                    rw [List.length_take, Nat.min_eq_left (by omega)] at RT0
                    have RT := Lib.hid RT0
                    clear RT0
                    refine hA _ _ (((Kept.refl _ _).alloc _)) ?_
                    try simp only [Act.put, List.setIfInBounds_toArray, List.set_cons_zero, List.set_cons_succ]
                    clear A hA
                    refine hd_quiet [false, false, false, false, false, false, false, false, false, false, false, false, false, false, false, false, false, false, false, false, false, false, false, false, false, false, false, false, false, false, false] (by kernel_rfl) ?_
                    simp only [pickAt]
                    repeat (go_big_quiet_step (fail))
                    refine wpQuiet_nil ?_
                    refine hd_act 14 rfl (by kernel_rfl) ?_
                    refine run_want rfl ?_
                    intro A hA
                    refine wp_appS (.tmp 225) (.tmp 235) 36 (by rfl) info_box Try.underlying36 rfl (by decide) HO.out RT.out (by rfl) (by rfl) (box_one _) (by omega) (by simp <;> omega) ?_
                    intro v8 w8 ho8 hg8
                    have HB8 : Hid (Below W2.heap.size W2.drew w8) := Lib.hid (((Below.refl W2.heap.size W2.drew).alloc (by simp <;> omega) (.cells #[] 29)).grown hg8 (by simp <;> omega) (fun y hy => (HO.out.lt y hy).1))
                    have hs8 : W2.heap.size ≤ w8.heap.size := HB8.out.size
                    have HO8 := Lib.hid ho8
                    refine hA _ _ (Kept.of_grown (M := Since W2.heap.size) hg8 fun y hy => (HO.out.lt y hy).1) ?_
                    try simp only [Act.put, List.setIfInBounds_toArray, List.set_cons_zero, List.set_cons_succ]
                    clear A hA
                    clear ho8 hg8
                    have hlq : (L p).length - (q + 1) = 0 := by omega
                    have hdq : (L p).drop (q + 1) = [] := List.drop_of_length_le (by omega)
                    have RD : Hid (Rd w8 2 (.slice (some ⟨bS, oS, none⟩) 0 0) 0 ([] : List Value)) := Lib.hid (by
                      have h9 := Rd.below (w := W2.drew) (rd_behind HSL7.out (q + 1) (by omega)) HB8.out
                      rw [hdq, hlq] at h9
                      simpa [slAddr] using h9)
                    refine hd_quiet [false, false, false, false, false, false, false, false, false, false, false, false, false, false, false, false, false, false, false, false, false, false, false, false, false, false, false, false, false, false, false] (by kernel_rfl) ?_
                    simp only [pickAt]
                    repeat (go_big_quiet_step (fail))
                    refine wpQuiet_nil ?_
                    refine hd_act 26 rfl (by kernel_rfl) ?_
                    refine run_want rfl ?_
                    intro A hA
                    refine wp_appS (.tmp 236) (.tmp 247) 36 (by rfl) info_box Try.underlying36 rfl (by decide) HO8.out RD.out (by rfl) (by rfl) (fun u hu => (by cases hu)) (by omega) (by first | exact hs8 | (simp; omega)) ?_
                    intro v9 w9 ho9 hg9
                    obtain ⟨av, cv, rfl, _, _⟩ := (Rd.of_own ho9).form
                    have HB9 : Hid (Below W2.heap.size W2.drew w9) := Lib.hid (HB8.out.grown hg9 (by first | exact hs8 | (simp; omega)) (fun y hy => (HO8.out.lt y hy).1))
                    have HO9 := Lib.hid ho9
                    refine hA _ _ (Kept.of_grown (M := Since W2.heap.size) hg9 fun y hy => (HO8.out.lt y hy).1) ?_
                    try simp only [Act.put, List.setIfInBounds_toArray, List.set_cons_zero, List.set_cons_succ]
                    clear A hA
                    clear ho9 hg9
                    refine hd_quiet [false, false, false, false, false, false, false, false, false, false, false, false, false, false, false, false, false, false, false, false, false, false, false, false, false, false, false, false, false, false, false] (by kernel_rfl) ?_
                    simp only [pickAt]
                    repeat (go_big_quiet_step (fail))
                    refine wpQuiet_nil ?_
                    refine hd_quiet [false, false, false, false, false, false, false, false, false, false, false, false, false, false, false, false, false, false, false, false, false, false, false, false, false, false, false, false, false, true, false] (by kernel_rfl) ?_
                    simp only [pickAt]
                    repeat (go_big_quiet_step (fail))
                    refine wpQuiet_nil ?_
                    have HS9 := Lib.hid (HS7.out.drew.below HB9.out)
                    have HX9 := HS9.out.d.ob.blk
                    obtain ⟨l9, c9, f9⟩ := HX9
                    have cp9 := (c9 (1 + p)).trans (m_get room S p hp8)
                    clear c9
                    refine hd_tail rfl (by kernel_rfl) ?_
                    simp only [List.drop_succ_cons, List.drop_zero]
                    go_wp2_with fail
                    have R9 : Hid (Rd w9 2 (.slice av q cv) N.length (N.flatMap Bx.box)) := Lib.hid (by
                      have h9 := Rd.of_own HO9.out
                      rw [← HNE.out, hdq, List.append_nil, List.length_take, Nat.min_eq_left (by omega)]
                      simpa using h9)
                    have hst := HS9.out.model hp8 R9.out (fun a l c he => by cases he; have h1 := HO9.out.lt _ rfl; exact ⟨fun hm => by have := qlt HS7.out.q _ hm; omega, by omega, h1.2⟩)
                    have hbe := B7.out.drew.trans (HB9.out.mono hs7)
                    refine NoPanic.normal ?_
                    go_wp2_with fail
                    go_meet
                    exact ⟨_, _, _, hst, hln5, hus5, below_setM hbe (by have := HST.out.mB; omega)⟩
                  · have hcn : cS ≠ q + 1 := by omega
                    refine wp_heads (M := (Since W2.heap.size)) 30 (by kernel_rfl) (by kernel_rfl) ?_
                    refine hd_quiet [true, true, true, false, true, true, true, true, true, true, true, true, true, true, false, true, true, true, true, true, true, true, true, true, true, true, false, true, true, false, false] (by kernel_rfl) ?_
                    simp only [pickAt]
                    repeat (go_big_quiet_step (fail))
                    refine wpQuiet_nil ?_
                    refine hd_act 3 rfl (by kernel_rfl) ?_
                    refine run_want rfl ?_
                    intro A hA
                    go_simp
                    have HO := Lib.hid (World.ownsRow_made (base := W2.heap.size) (e := 29) (size := 2) W2.drew #[] 0 (by simp <;> omega) (by decide) rfl)
                    have RT0 := Rd.alloc (w := W2.drew) (rd_first HSL7.out q (by omega) (by omega)) (.cells #[] 29)
                    rw [List.length_take, Nat.min_eq_left (by omega)] at RT0
                    have RT := Lib.hid RT0
                    clear RT0
                    refine hA _ _ (((Kept.refl _ _).alloc _)) ?_
                    try simp only [Act.put, List.setIfInBounds_toArray, List.set_cons_zero, List.set_cons_succ]
                    clear A hA
                    refine hd_quiet [false, false, false, false, false, false, false, false, false, false, false, false, false, false, false, false, false, false, false, false, false, false, false, false, false, false, false, false, false, false, false] (by kernel_rfl) ?_
                    simp only [pickAt]
                    repeat (go_big_quiet_step (fail))
                    refine wpQuiet_nil ?_
                    refine hd_act 14 rfl (by kernel_rfl) ?_
                    refine run_want rfl ?_
                    intro A hA
                    refine wp_appS (.tmp 225) (.tmp 235) 36 (by rfl) info_box Try.underlying36 rfl (by decide) HO.out RT.out (by rfl) (by rfl) (box_one _) (by omega) (by simp <;> omega) ?_
                    intro v8 w8 ho8 hg8
                    have HB8 : Hid (Below W2.heap.size W2.drew w8) := Lib.hid (((Below.refl W2.heap.size W2.drew).alloc (by simp <;> omega) (.cells #[] 29)).grown hg8 (by simp <;> omega) (fun y hy => (HO.out.lt y hy).1))
                    have hs8 : W2.heap.size ≤ w8.heap.size := HB8.out.size
                    have HO8 := Lib.hid ho8
                    refine hA _ _ (Kept.of_grown (M := Since W2.heap.size) hg8 fun y hy => (HO.out.lt y hy).1) ?_
                    try simp only [Act.put, List.setIfInBounds_toArray, List.set_cons_zero, List.set_cons_succ]
                    clear A hA
                    clear ho8 hg8
                    have RD : Hid (Rd w8 2 (.slice (some ⟨bS, oS + (q + 1) * 2, none⟩) ((L p).length - (q + 1)) (cS - (q + 1))) ((L p).length - (q + 1)) (((L p).drop (q + 1)).flatMap Bx.box)) := Lib.hid (by
                      have h9 := Rd.below (w := W2.drew) (rd_behind HSL7.out (q + 1) (by omega)) HB8.out
                      rw [List.length_drop] at h9
                      simpa [slAddr, hcn, addr_add] using h9)
                    refine hd_quiet [false, false, false, false, false, false, false, false, false, false, false, false, false, false, false, false, false, false, false, false, false, false, false, false, false, false, false, false, false, false, false] (by kernel_rfl) ?_
                    simp only [pickAt]
                    repeat (go_big_quiet_step (fail))
                    refine wpQuiet_nil ?_
                    refine hd_act 26 rfl (by kernel_rfl) ?_
                    refine run_want rfl ?_
                    intro A hA
                    refine wp_appS (.tmp 236) (.tmp 247) 36 (by rfl) info_box Try.underlying36 rfl (by decide) HO8.out RD.out (by rfl) (by first | rfl | simp [Act.eval, hcn, addr_add]) (box_one _) (by omega) (by first | exact hs8 | (simp; omega)) ?_
                    intro v9 w9 ho9 hg9
                    obtain ⟨av, cv, rfl, _, _⟩ := (Rd.of_own ho9).form
                    have HB9 : Hid (Below W2.heap.size W2.drew w9) := Lib.hid (HB8.out.grown hg9 (by first | exact hs8 | (simp; omega)) (fun y hy => (HO8.out.lt y hy).1))
                    have HO9 := Lib.hid ho9
                    refine hA _ _ (Kept.of_grown (M := Since W2.heap.size) hg9 fun y hy => (HO8.out.lt y hy).1) ?_
                    try simp only [Act.put, List.setIfInBounds_toArray, List.set_cons_zero, List.set_cons_succ]
                    clear A hA
                    clear ho9 hg9
                    refine hd_quiet [false, false, false, false, false, false, false, false, false, false, false, false, false, false, false, false, false, false, false, false, false, false, false, false, false, false, false, false, false, false, false] (by kernel_rfl) ?_
                    simp only [pickAt]
                    repeat (go_big_quiet_step (fail))
                    refine wpQuiet_nil ?_
                    refine hd_quiet [false, false, false, false, false, false, false, false, false, false, false, false, false, false, false, false, false, false, false, false, false, false, false, false, false, false, false, false, false, true, false] (by kernel_rfl) ?_
                    simp only [pickAt]
                    repeat (go_big_quiet_step (fail))
                    refine wpQuiet_nil ?_
                    have HS9 := Lib.hid (HS7.out.drew.below HB9.out)
                    have HX9 := HS9.out.d.ob.blk
                    obtain ⟨l9, c9, f9⟩ := HX9
                    have cp9 := (c9 (1 + p)).trans (m_get room S p hp8)
                    clear c9
                    refine hd_tail rfl (by kernel_rfl) ?_
                    simp only [List.drop_succ_cons, List.drop_zero]
                    go_wp2_with fail
                    have R9 : Hid (Rd w9 2 (.slice av (q + ((L p).length - (q + 1))) cv) N.length (N.flatMap Bx.box)) := Lib.hid (by
                      have h9 := Rd.of_own HO9.out
                      rw [← HNE.out, List.flatMap_append, List.length_append, List.length_take, List.length_drop, Nat.min_eq_left (by omega)]
                      simpa using h9)
                    have hst := HS9.out.model hp8 R9.out (fun a l c he => by cases he; have h1 := HO9.out.lt _ rfl; exact ⟨fun hm => by have := qlt HS7.out.q _ hm; omega, by omega, h1.2⟩)
                    have hbe := B7.out.drew.trans (HB9.out.mono hs7)
                    refine NoPanic.normal ?_
                    go_wp2_with fail
                    go_meet
                    exact ⟨_, _, _, hst, hln5, hus5, below_setM hbe (by have := HST.out.mB; omega)⟩
-->K3
            · have kb2 : (x.kind == 2) = false := beq_eq_false_iff_ne.2 hk2
              have kb3 : (x.kind == 3) = false := beq_eq_false_iff_ne.2 hk3
              clear hk1 hk2 hk3
              go_wp2_with fail
              go_meet
              exact ⟨V, S, L, HSX.out, by omega, hus, HBX.out⟩
      case rest =>
        obtain ⟨V2, S2, L2, hst, hln2, hus2, hb2⟩ := hcut
        have HST2 := Lib.hid hst
        have HB2 := Lib.hid hb2
        have hs2 := hb2.size
        rw [HBQ.out] at hs2
        clear hst hb2 c0 c1 c2 c3 hbo hbs
        obtain ⟨u, hu0, HU⟩ : ∃ u : Int, 0 ≤ u ∧ Hid (usedTo L2 8 = u) := ⟨_, (usedTo_b L2 8).1, Lib.hid rfl⟩
--<K4
        as_aux_lemma =>
        go_wp2_with fail
        refine (peek_any B B V2 room (usedTo L2 8) L2 _ HST2.out.q).mono ?_
        rintro e w5 ⟨hb5, ⟨rfl, hn⟩ | ⟨p, y, r, hp8, hlp, habove, rfl⟩⟩
        · have HN := Lib.hid hn
          have HS5 := Lib.hid ((HST2.out.below hb5).alloc (.cells #[.int .i64 0, .int .i64 0] 29))
          have B5 := Lib.hid ((HB2.out.trans (hb5.mono hs2)).alloc (Nat.le_trans hs2 hb5.size) (.cells #[.int .i64 0, .int .i64 0] 29))
          clear hb5 hn
          unfold noBox
          go_wp2_with fail
          refine (first_mod M S2 room L2 _ HS5.out.d).mono ?_
          rintro e w6 ⟨t, rfl, ht, rfl⟩
          have ht1 : t = -1 := by
            rcases ht with ⟨h, _⟩ | ⟨q, rfl, hq, hne, _⟩
            · exact h
            · exact absurd (HN.out q hq) hne
          subst ht1
          go_wp2_with fail
          refine wp_run (M := (fun _ => False)) (stages [([true, true, true, true, true, true, true, true, true, true, true, true, true, true, true, true, true, true, true, true, true, true, true, true, true, true, false, true, false, false, false], 26), ([false, false, false, false, false, false, false, false, false, false, false, false, false, false, false, false, false, false, false, false, false, false, false, false, false, false, false, false, false, false, false], 28)] [false, false, false, false, false, false, false, false, false, false, false, false, false, false, false, false, false, false, false, false, false, false, false, false, false, false, false, false, false, true, true]) (by kernel_rfl) (by kernel_rfl) ?_
          refine run_stage rfl ?_
          simp only [pickAt]
          repeat (go_big_quiet_step (fail))
          refine wpQuiet_nil ?_
          refine run_want rfl ?_
          intro A hA
          go_simp
          refine (used_any B B V2 room (usedTo L2 8) L2 _ HS5.out.drew.q).mono ?_
          rintro e w7 ⟨rfl, rfl⟩
          rw [HU.out]
          refine hA _ _ ((Kept.refl _ _)) ?_
          try simp only [Act.put, List.setIfInBounds_toArray, List.set_cons_zero, List.set_cons_succ]
          clear A hA
          refine run_stage rfl ?_
          simp only [pickAt]
          repeat (go_big_quiet_step (fail))
          refine wpQuiet_nil ?_
          refine run_want rfl ?_
          intro A hA
          go_simp
          refine (used_mod M S2 room L2 _ HS5.out.drew.d (by omega)).mono ?_
          rintro e w8 ⟨rfl, hb8⟩
          rw [HU.out]
          have HS8 := Lib.hid (HS5.out.drew.below hb8)
          have B8 := Lib.hid (B5.out.drew.trans (hb8.mono (by have := B5.out.size; rw [HBQ.out] at this; exact this)))
          refine hA _ _ ((Kept.of_below hb8)) ?_
          try simp only [Act.put, List.setIfInBounds_toArray, List.set_cons_zero, List.set_cons_succ]
          clear A hA
          clear hb8
          refine run_last ?_
          simp only [pickAt]
          repeat (go_big_quiet_step (fail))
          refine wpQuiet_nil ?_
          go_wp2_with fail
          go_roundw
          case rel => exact ⟨k + 1, V2, S2, L2, by go_num, by omega, HS8.out, hln2, hus2, B8.out⟩
          case measure => simp [intOf]; omega
        · have HLP := Lib.hid hlp
          have HAB := Lib.hid habove
          have HS5 := Lib.hid ((HST2.out.below hb5).alloc (.cells #[.int .i64 y.n, .int .i64 y.v] 29))
          have B5 := Lib.hid ((HB2.out.trans (hb5.mono hs2)).alloc (Nat.le_trans hs2 hb5.size) (.cells #[.int .i64 y.n, .int .i64 y.v] 29))
          have OZ := Lib.hid (Ob.new w5 #[.int .i64 y.n, .int .i64 y.v] 29)
          have hs5 : B ≤ (w5.alloc (.cells #[.int .i64 y.n, .int .i64 y.v] 29)).heap.size := by have := hb5.size; rw [World.size_alloc]; omega
          clear hb5 hlp habove
          unfold boxV
          go_wp2_with fail
          refine (first_mod M S2 room L2 _ HS5.out.d).mono ?_
          rintro e w6 ⟨t, rfl, ht, rfl⟩
          have ht1 : t = (p : Int) := by
            rcases ht with ⟨_, h⟩ | ⟨q, rfl, hq, hne, hab⟩
            · have := h p hp8; rw [HLP.out] at this; cases this
            · have h1 : ¬ p < q := fun hh => hne (HAB.out q hh hq)
              have h2 : ¬ q < p := fun hh => by have := hab p hh hp8; rw [HLP.out] at this; cases this
              omega
          subst ht1
          clear ht
          generalize w5.alloc (.cells #[.int .i64 y.n, .int .i64 y.v] 29) = wz at *
          generalize w5.heap.size = Z at *
          obtain ⟨aS, cS, hSp, c1, hc1, hc2⟩ := HS5.out.d.at p hp8
          have hsl := HS5.out.d.rd p hp8
          rw [hSp] at hsl
          have hll : (L2 p).length = r.length + 1 := by rw [HLP.out]; rfl
          obtain ⟨bS, oS, rfl, hbS, cw⟩ := Rd.row rowBox (by decide) hsl 0 (by omega)
          have he0 : (L2 p)[0]'(by omega) = y := by simp [HLP.out]
          rw [he0] at cw
          have d0 := cw 0 (.int .i64 y.n) rfl
          have d1 := cw 1 (.int .i64 y.v) rfl
          rw [Nat.zero_mul, Nat.add_zero] at d0 d1
          have hl0 : (0 : Int) < (L2 p).length := by omega
          have hpi : (p : Int) < 8 := by omega
          have hp0 : decide ((0 : Int) ≤ (p : Int)) = true := decide_eq_true (by omega)
          clear cw hsl hSp he0
          have lm := HS5.out.d.ob.lt
          obtain ⟨lz, cz, fz⟩ := OZ.out.blk
          go_wp2_with fail
          refine wp_run (M := (fun _ => False)) (stages [([true, true, true, true, true, true, true, true, true, true, true, true, true, true, true, true, true, true, true, true, true, true, true, true, true, true, false, true, false, false, false], 26), ([false, false, false, false, false, false, false, false, false, false, false, false, false, false, false, false, false, false, false, false, false, false, false, false, false, false, false, false, false, false, false], 28)] [false, false, false, false, false, false, false, false, false, false, false, false, false, false, false, false, false, false, false, false, false, false, false, false, false, false, false, false, false, true, true]) (by kernel_rfl) (by kernel_rfl) ?_
          refine run_stage rfl ?_
          simp only [pickAt]
          repeat (go_big_quiet_step (fail))
          refine wpQuiet_nil ?_
          refine run_want rfl ?_
          intro A hA
          go_simp
          refine (used_any B B V2 room (usedTo L2 8) L2 _ HS5.out.drew.q).mono ?_
          rintro e w7 ⟨rfl, rfl⟩
          rw [HU.out]
          refine hA _ _ ((Kept.refl _ _)) ?_
          try simp only [Act.put, List.setIfInBounds_toArray, List.set_cons_zero, List.set_cons_succ]
          clear A hA
          refine run_stage rfl ?_
          simp only [pickAt]
          repeat (go_big_quiet_step (fail))
          refine wpQuiet_nil ?_
          refine run_want rfl ?_
          intro A hA
          go_simp
          refine (used_mod M S2 room L2 _ HS5.out.drew.d (by omega)).mono ?_
          rintro e w8 ⟨rfl, hb8⟩
          rw [HU.out]
          have HS8 := Lib.hid (HS5.out.drew.below hb8)
          have B8 := Lib.hid (B5.out.drew.trans (hb8.mono (by have := B5.out.size; rw [HBQ.out] at this; exact this)))
          refine hA _ _ ((Kept.of_below hb8)) ?_
          try simp only [Act.put, List.setIfInBounds_toArray, List.set_cons_zero, List.set_cons_succ]
          clear A hA
          clear hb8
          refine run_last ?_
          simp only [pickAt]
          repeat (go_big_quiet_step (fail))
          refine wpQuiet_nil ?_
          go_wp2_with fail
          go_roundw
          case rel => exact ⟨k + 1, V2, S2, L2, by go_num, by omega, HS8.out, hln2, hus2, B8.out⟩
          case measure => simp [intOf]; omega
-->K4
    · obtain rfl : k = l.length := by omega
--<K5
      as_aux_lemma =>
      go_wp2_with fail
      go_loopw [25, 26] (fun n i wq => ∃ (j : Nat), n = .int .i64 (lenTo L j) ∧ i = .int .i64 j ∧ j ≤ 8 ∧ St B M B V S room L L wq ∧ Below B w wq) (fun _ i _ => 8 - (intOf i).toNat)
      case atStart => exact ⟨0, rfl, rfl, by omega, HST.out, HB.out⟩
      case round =>
        obtain ⟨j, rfl, rfl, hj, hst, hb⟩ := hrel
        have HS1 := Lib.hid hst
        have HB1 := Lib.hid hb
        have hsz := hb.size
        rw [HBQ.out] at hsz
        clear hst hb
        by_cases hj8 : j < 8
        · have hd8 : decide ((j : Int) < 8) = true := decide_eq_true (by omega)
          have hji : (j : Int) < 8 := by omega
          have hlj := lenTo_ge L j hj8
          have hlb : lenTo L j + (L j).length ≤ 100 := by
            have h1 := lenTo_mono L (j + 1) (8 - (j + 1))
            rw [show j + 1 + (8 - (j + 1)) = 8 by omega] at h1
            rw [lenTo] at h1
            omega
          go_wp2_with fail
          refine (line_any B B V room (usedTo L 8) L j _ HS1.out.q hj8 (by omega)).mono ?_
          rintro e w5 ⟨vn, rfl, hw5, hb5⟩
          obtain ⟨an, cn, rfl, hcn, hcm⟩ := (Rd.of_own hw5).form
          have HS5 := Lib.hid (HS1.out.below hb5)
          have B5 := Lib.hid (HB1.out.trans (hb5.mono hsz))
          have R5 := Lib.hid (Rd.of_own hw5)
          have hs5 : B ≤ w5.heap.size := Nat.le_trans hsz hb5.size
          clear hb5 hw5
          obtain ⟨aS, cS, hSp, c1, hc1, hc2⟩ := HS5.out.d.at j hj8
          have HSP := Lib.hid hSp
          have lm := HS5.out.d.ob.lt
          clear hSp
          go_wp2_with fail
          go_loopw [28] (fun i wr => ∃ (n : Nat), i = .int .i64 n ∧ n ≤ (L j).length ∧ St B M B V S room L L wr ∧ Rd wr 2 (.slice an (L j).length cn) (L j).length ((L j).flatMap Bx.box) ∧ Below B w wr) (fun i _ => (L j).length - (intOf i).toNat)
          case atStart => exact ⟨0, rfl, by omega, HS5.out, R5.out, B5.out⟩
          case round =>
            obtain ⟨n, rfl, hn, hst, hrd, hb⟩ := hrel
            have HS6 := Lib.hid hst
            have R6 := Lib.hid hrd
            have B6 := Lib.hid hb
            have hs6 : B ≤ wr.heap.size := by have := hb.size; rw [HBQ.out] at this; exact this
            clear hst hrd hb c1 lm
            by_cases hnl : n < (L j).length
            · have hni : (n : Int) < (L j).length := by omega
              obtain ⟨bn, on, rfl, hbn, cw⟩ := Rd.row rowBox (by decide) R6.out n hnl
              have d0 := cw 0 (.int .i64 (L j)[n].n) rfl
              have d1 := cw 1 (.int .i64 (L j)[n].v) rfl
              obtain ⟨_, _, hSp, c1, _, _⟩ := HS6.out.d.at j hj8
              rw [HSP.out] at hSp
              cases hSp
              have hsl := HS6.out.d.rd j hj8
              rw [HSP.out] at hsl
              obtain ⟨bS, oS, rfl, hbS, cv⟩ := Rd.row rowBox (by decide) hsl n hnl
              have e0 := cv 0 (.int .i64 (L j)[n].n) rfl
              have e1 := cv 1 (.int .i64 (L j)[n].v) rfl
              rw [Nat.add_zero] at d0 e0
              have lm := HS6.out.d.ob.lt
              clear cw cv hsl
              go_wp2_with fail
              refine wp_region_quiet_lit (by kernel_rfl) (by kernel_rfl) ?_
              repeat (first | go_big_quiet_step (fail) | quiet_step (fail))
              refine wpQuiet_nil ?_
              intro W hW
              have hkW : Below wr.heap.size wr W := by obtain ⟨n, rfl⟩ := hW; exact below_dn (Below.refl _ _)
              have HS7 := Lib.hid (HS6.out.below hkW)
              have B7 := Lib.hid (B6.out.trans (hkW.mono hs6))
              have R7 := Lib.hid (R6.out.below hkW)
              clear hkW hW c1 d0 d1 e0 e1 lm hbn hbS
              go_wp2_with fail
              go_roundw
              case rel => exact ⟨n + 1, by go_num, by omega, HS7.out, R7.out, B7.out⟩
              case measure => simp [intOf]; omega
            · obtain rfl : n = (L j).length := by omega
              go_wp2_with fail
              go_roundw
              case rel => exact ⟨j + 1, by rw [lenTo]; go_num, by go_num, by omega, HS6.out, B6.out⟩
              case measure => simp [intOf]; omega
        · obtain rfl : j = 8 := by omega
          have hl8 : ∀ i, i < 8 → (L i).length ≤ 1000000 := fun i hi => by have := lenTo_ge L i hi; omega
          have HL8 := Lib.hid hl8
          clear hl8
          go_wp2_with fail
          refine (len_any B B V room (usedTo L 8) L _ HS1.out.q HL8.out).mono ?_
          rintro e w5 ⟨rfl, rfl⟩
          go_wp2_with fail
          refine (line_no 8 _ (.inr (by omega)) _).mono ?_
          rintro e w6 ⟨rfl, rfl⟩
          go_wp2_with fail
          refine (line_no (-1) _ (.inl (by omega)) _).mono ?_
          rintro e w6 ⟨rfl, rfl⟩
          go_wp2_with fail
          refine (awake_any _).mono ?_
          rintro e w7 ⟨rfl, hb7⟩
          go_wp2_with fail
          go_ret
          refine ⟨rfl, ?_⟩
          rw [HBQ.out]
          exact HB1.out.trans (hb7.mono hsz)
-->K5
set_option maxRecDepth 100000 in
theorem plays_any (room : Int) (l : List Sp) (v : Value) (w : World) (h : Rd w 4 v l.length (l.flatMap Sp.row)) : Calls Try.prog 5 #[.int .i64 room, v] w (TrueBelow w) := by
  by_cases hl : l.length ≤ 100
  · by_cases hr : 0 ≤ room ∧ room ≤ 1099511627776
    · exact plays_in room l v w h hl hr
    · obtain ⟨v, cp, rfl, h1, h2⟩ := h.form
      have HN := Lib.hid hr
      have hc : room < 0 ∨ (0 ≤ room ∧ decide (room ≤ 1099511627776) = false) := by rcases Int.lt_or_le room 0 with h | h; exact .inl h; exact .inr ⟨h, by simp; omega⟩
      clear h hr
      rcases hc with hc | ⟨hc, hc2⟩
      all_goals
        go_enter Try.func5, Try.ntmps5
        go_wp2_with fail
        refine (qnew_no room _ HN.out).mono ?_
        rintro e w1 ⟨rfl, rfl⟩
        go_wp2_with fail
        refine (awake_any _).mono ?_
        rintro e w2 ⟨rfl, hb⟩
        go_wp2_with fail
        go_ret
        exact ⟨rfl, hb⟩
  · obtain ⟨v, cp, rfl, h1, h2⟩ := h.form
    clear h
    go_enter Try.func5, Try.ntmps5
    go_wp2_with fail
    refine (awake_any _).mono ?_
    rintro e w2 ⟨rfl, hb⟩
    go_wp2_with fail
    go_ret
    exact ⟨rfl, hb⟩
end Go.Proofs.Ytodkcbglbolfhaa
