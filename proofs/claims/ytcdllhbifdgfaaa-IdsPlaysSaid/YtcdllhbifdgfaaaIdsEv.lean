/- The law IdsEver (chapter 9), walked. -/
import Derived.Test.YtcdllhbifdgfaaaIdsRe
import Derived.Deep.CutBlock
namespace Go.Proofs.Ytcdllhbifdgfaaa
open Go.RowKit

/-- a window, and a list of what has ended -/
structure Ev (B : Nat) (V D : Value) (s : Wd) (dl : List Int) (w : World) : Prop where
  a : Wi B B V s w
  d : w.ownsRow B TU 1 D dl.length (dl.map (Value.int .u64))
  ap : ∀ x, D.ownBlock = some x → ¬ WM B V x
theorem Ev.first {B : Nat} {V D : Value} {s s' : Wd} {dl : List Int} {w w' : World} (h : Ev B V D s dl w) (hp : WiPost B B V s' w w') : ∃ V', Ev B V' D s' dl w' ∧ Below B w w' := by
  obtain ⟨V', h1, h2, h3⟩ := hp
  refine ⟨V', ⟨h1, own_kept h.d h2 (fun x hx hh => h.ap x hx hh), fun x hx hu => ?_⟩, h2.belowAt (Nat.le_of_lt h.a.ob.lt) (fun x hx => (h.a.lt x hx).1)⟩
  rcases h3 x hu with hh | hh
  · exact h.ap x hx hh
  · have := (own_lt h.d x hx).2; omega
theorem Ev.kept {B : Nat} {V D : Value} {s : Wd} {dl : List Int} {w w' : World} (h : Ev B V D s dl w) (hk : Kept (fun _ => False) w w') : Ev B V D s dl w' := ⟨h.a.kept hk fun _ _ hh => hh, own_kept h.d hk fun _ _ hh => hh, h.ap⟩
/-- one more has ended -/
theorem Ev.more {B : Nat} {V D D' : Value} {s : Wd} {dl : List Int} {x : Int} {w w' : World} (h : Ev B V D s dl w) (ho : w'.ownsRow B TU 1 D' (dl.length + 1) (dl.map (Value.int .u64) ++ [Value.int .u64 x])) (hg : w.grownBy w' D.ownBlock)
    (hb : D'.ownBlock = D.ownBlock ∨ D'.ownBlock = some w.heap.size) : Ev B V D' s (dl ++ [x]) w' ∧ Below B w w' := by
  have hk := Kept.of_grown (M := fun y => D.ownBlock = some y) hg fun y hy => hy
  refine ⟨⟨h.a.kept hk (fun y hy hh => h.ap y hh hy), by rw [List.length_append, List.length_singleton, List.map_append]; exact ho, fun y hy hu => ?_⟩, hk.belowAt (Nat.le_of_lt h.a.ob.lt) (fun y hy => (own_lt h.d y hy).1)⟩
  rcases hb with hb | hb
  · exact h.ap y (by rw [← hb]; exact hy) hu
  · rw [hb] at hy; injection hy; have := (h.a.lt y hu).2; omega
/-- what the list holds has ended -/
def endedIn (s : Wd) (dl : List Int) : Prop := ∀ x ∈ dl, x ≠ 0 ∧ s.has x
set_option maxRecDepth 100000 in
set_option maxHeartbeats 4000000 in
theorem ever_in (most : Int) (l r : List Int) (v u : Value) (w : World) (h : Rd w 1 v l.length (l.map (Value.int .u64))) (h' : Rd w 1 u r.length (r.map (Value.int .u64))) (hl : l.length ≤ 80) (hr : r.length ≤ 80) (hg : ∀ x ∈ l, 0 ≤ x) (hg' : ∀ x ∈ r, 0 ≤ x)
    (m0 : 1 ≤ most) (m1 : most ≤ 50) : Calls Try.prog 6 #[.int .i64 most, v, u] w (TrueBelow w) := by
  obtain ⟨v, cp, rfl, h1, h2⟩ := h.form
  obtain ⟨u, cq, rfl, h3, h4⟩ := h'.form
  have HR := Lib.hid h
  have HR' := Lib.hid h'
  have HG := Lib.hid hg
  have HG' := Lib.hid hg'
  clear h h' hg hg'
  go_enter Try.func6, Try.ntmps6
  go_wp2_with fail
  refine (new_yes most _ ⟨m0, by omega⟩).mono ?_
  rintro e w1 ⟨rfl, hw, hb⟩
  have HB := Lib.hid hb
  have HW := Lib.hid hw
  clear hw hb
  go_wp2_with fail
  generalize hB : w.heap.size = B at *
  have HBQ := Lib.hid hB
  clear hB
  go_loopw [9, 10, 11] (fun d la i wr => ∃ (k : Nat) (V : Value) (s : Wd) (dl : List Int) (last : Int), la = .int .u64 last ∧ i = .int .i64 k ∧ k ≤ l.length ∧ Ev B V d s dl wr ∧ s.ok ∧ s.most = most ∧ endedIn s dl ∧ last ≤ s.mark ∧ dl.length ≤ k ∧ Below B w wr) (fun _ _ i _ => l.length - (intOf i).toNat)
  case atStart => exact ⟨0, _, _, [], 1, rfl, rfl, Nat.zero_le _, ⟨HW.out, World.ownsRow_nil _ _ _ _, fun x hx => (by cases hx)⟩, new_ok m0 (by omega), rfl, fun x hx => (by cases hx), Int.le_refl _, Nat.le_refl _, HB.out⟩
  case round =>
    obtain ⟨k, V, s, dl, last, rfl, rfl, hk, hw, ho, hm, he, hla, hdl, hb⟩ := hrel
    obtain ⟨D, dc, rfl, _, _⟩ := (Rd.of_own hw.d).form
    have HE := Lib.hid hw
    have HO := Lib.hid ho
    have HM := Lib.hid hm
    have HN := Lib.hid he
    have HBk := Lib.hid hb
    have sk : B ≤ wr.heap.size := by have := hb.size; rw [HBQ.out] at this; exact this
    clear hw ho hm he hb
    by_cases hlt : k < l.length
    · obtain ⟨b, o, rfl, c0⟩ := (HR.out.below (by rw [HBQ.out]; exact HBk.out)).at k hlt
      have hbB : b < B := by
        obtain ⟨_, _, _, he, _, _, hb, _⟩ := HR.out.some (by omega) (by decide)
        cases he; rw [← HBQ.out]; exact hb
      have hx0 := HG.out l[k] (List.getElem_mem hlt)
      generalize l[k] = x at *
      go_wp2_with fail
      refine (done_any B B V s x _ HE.out.a HO.out hx0).mono ?_
      rintro e w3 ⟨rfl, hp3⟩
      obtain ⟨V3, hw3, hb3⟩ := HE.out.first hp3
      have HE3 := Lib.hid hw3
      have B3 := Lib.hid (HBk.out.trans hb3)
      have c3 : w3.cell? ⟨b, o + k, none⟩ = some (.int .u64 x) := (hb3.cell (p := ⟨b, o + k, none⟩) hbB).trans c0
      have s3 := Nat.le_trans sk hb3.size
      clear hp3 hw3 hb3 c0
      go_upto_if 53 with fail
      go_cut [9] from 41 to 123 (fun d wx => ∃ (V : Value) (s' : Wd) (dl' : List Int), Ev B V d s' dl' wx ∧ s'.ok ∧ s'.most = most ∧ endedIn s' dl' ∧ s.mark ≤ s'.mark ∧ dl'.length ≤ k + 1 ∧ Below B w wx)
      case first =>
        by_cases hc : s.code x = 0
        · have hcb : (s.code x == 0) = true := beq_iff_eq.2 hc
          have HC := Lib.hid hc
          have HX : Hid (x ≠ 0) := Lib.hid (by
            rintro rfl
            rcases code_cases s 0 with ⟨e1, _⟩ | ⟨_, _, e1⟩ | ⟨e1, _⟩ | ⟨_, _, e1, _⟩
            · omega
            · exact ((is_iff _ _).1 e1).1 rfl
            · omega
            · exact e1 rfl)
          clear hc
          have hdl2 : dl.length ≤ 80 := by omega
          have HED := Lib.hid (HE3.out.kept ((Kept.refl (fun _ => False) w3).alloc (.cells #[.int .u64 x] TU)))
          go_wp2_with (at_builtin; refine wpList_appAt rfl (.tmp 54) (.tmp 59) 42 rfl info_u64 Try.underlying42 rfl (by decide) HED.out.d (Rd.one (k := 1) w3 #[.int .u64 x] TU rfl) rfl rfl (fun u hu => by simp at hu; subst hu; rfl) (by omega) (by rw [World.size_alloc]; omega) ?_; intro v' w' ho' hg' hb')
          obtain ⟨h5, h6⟩ := HED.out.more ho' hg' hb'
          have HE5 := Lib.hid h5
          have B5 := Lib.hid ((B3.out.alloc s3 (.cells #[.int .u64 x] TU)).trans h6)
          clear h5 h6 ho' hg' hb'
          go_wp2_with fail
          go_meet
          refine ⟨V3, _, _, HE5.out, done_ok HO.out x hx0, by rw [done_most, HM.out], fun y hy => ?_, done_mark s x, by rw [List.length_append, List.length_singleton]; omega, B5.out⟩
          rcases List.mem_append.1 hy with hy | hy
          · exact ⟨(HN.out y hy).1, (done_has HC.out y).2 (.inr (HN.out y hy).2)⟩
          · rw [List.mem_singleton] at hy
            subst hy
            exact ⟨HX.out, (done_has HC.out y).2 (.inl rfl)⟩
        · have hsame := done_same hc
          have hE := HE3.out
          rw [hsame] at hE
          have HE4 := Lib.hid hE
          have hcode : (s.code x = 1 ∧ (x = 0 ∨ (x ≠ 0 ∧ 1152921504606846976 < x))) ∨ (s.code x = 4 ∧ x ≠ 0 ∧ x ≤ 1152921504606846976 ∧ most ≤ s.l.length) := by
            rcases code_cases s x with ⟨e1, _, e2⟩ | ⟨e1, _, _⟩ | ⟨e1, _, e2, _, e3⟩ | ⟨e1, _⟩
            · exact .inl ⟨e1, by omega⟩
            · exact absurd e1 hc
            · exact .inr ⟨e1, e3.1, e3.2, by rw [← HM.out]; exact e2⟩
            · exact absurd e1 hc
          clear hc hE hsame
          have hfin : ∀ wx, Kept (fun _ => False) w3 wx → ∃ (V : Value) (s' : Wd) (dl' : List Int), Ev B V (.slice D dl.length dc) s' dl' wx ∧ s'.ok ∧ s'.most = most ∧ endedIn s' dl' ∧ s.mark ≤ s'.mark ∧ dl'.length ≤ k + 1 ∧ Below B w wx :=
            fun wx hk => ⟨V3, s, dl, HE4.out.kept hk, HO.out, HM.out, HN.out, Int.le_refl _, by omega, B3.out.trans (hk.below.mono s3)⟩
          have HF := Lib.hid hfin
          clear hfin
          rcases hcode with ⟨e1, e2 | ⟨e2, e3⟩⟩ | ⟨e1, e2, e3, e4⟩
          · have hcb : (s.code x == 0) = false := by rw [e1]; decide
            clear e1
            have e5 : (x != 0) = false := by simp [e2]
            have e6 : (x == 0) = true := beq_iff_eq.2 e2
            clear e2
            go_wp2_with fail
            go_meet
            exact HF.out _ (Kept.refl _ _)
          · have hcb : (s.code x == 0) = false := by rw [e1]; decide
            clear e1
            have e5 : (x != 0) = true := by simpa using e2
            have e6 : (x == 0) = false := beq_eq_false_iff_ne.2 e2
            go_wp2_with fail
            go_meet
            exact HF.out _ (Kept.refl _ _)
          · have hcb : (s.code x == 0) = false := by rw [e1]; decide
            clear e1
            have e5 : (x != 0) = true := by simpa using e2
            have e6 : (x == 0) = false := beq_eq_false_iff_ne.2 e2
            go_wp2_with fail
            refine (len_any B B V3 s _ HE4.out.a).mono ?_
            rintro e w4 ⟨rfl, rfl⟩
            go_wp2_with fail
            go_meet
            exact HF.out _ (Kept.refl _ _)
      case rest =>
      obtain ⟨V1, s1, dl1, hw, ho, hm, he, hma, hdl1, hb⟩ := hcut
      obtain ⟨D1, dc1, rfl, _, _⟩ := (Rd.of_own hw.d).form
      have HE1 := Lib.hid hw
      have HO1 := Lib.hid ho
      have HM1 := Lib.hid hm
      have HN1 := Lib.hid he
      have B1 := Lib.hid hb
      have sx := hb.size
      rw [HBQ.out] at sx
      clear hw ho hm he hb c3 HE HO HM HN HBk HE3 B3
      go_upto_if 82 with fail
      go_cut [9] from 41 to 123 (fun d wx => d = .slice D1 dl1.length dc1 ∧ ∃ (V : Value) (s' : Wd), Ev B V (.slice D1 dl1.length dc1) s' dl1 wx ∧ s'.ok ∧ s'.most = most ∧ endedIn s' dl1 ∧ s.mark ≤ s'.mark ∧ Below B w wx)
      case first =>
        by_cases hkr : k < r.length
        · obtain ⟨b2, o2, rfl, c4⟩ := (HR'.out.below (by rw [HBQ.out]; exact B1.out)).at k hkr
          have hy0 := HG'.out r[k] (List.getElem_mem hkr)
          have hkd : decide ((k : Int) < r.length) = true := decide_eq_true (by omega)
          generalize r[k] = y at *
          go_wp2_with fail
          refine (retire_any B B V1 s1 y _ HE1.out.a HO1.out hy0).mono ?_
          rintro e w4 ⟨rfl, hp4⟩
          obtain ⟨V4, hw4, hb4⟩ := HE1.out.first hp4
          have HE4 := Lib.hid hw4
          have B4 := Lib.hid (B1.out.trans hb4)
          clear hp4 hw4 hb4 c4
          go_wp2_with fail
          go_meet
          exact ⟨rfl, V4, _, HE4.out, goes_ok HO1.out _ (by omega), HM1.out, fun z hz => ⟨(HN1.out z hz).1, (goes_has _ _ _).2 (by rcases (HN1.out z hz).2 with h | h; exact .inl (by omega); exact .inr h)⟩, Int.le_trans hma (goes_mark _ _).1, B4.out⟩
        · have hkd : decide ((k : Int) < r.length) = false := decide_eq_false (by omega)
          go_wp2_with fail
          go_meet
          exact ⟨rfl, V1, s1, HE1.out, HO1.out, HM1.out, HN1.out, hma, B1.out⟩
      case rest =>
      obtain ⟨rfl, V2, s2, hw, ho, hm, he, hma2, hb⟩ := hcut
      have HE2 := Lib.hid hw
      have HO2 := Lib.hid ho
      have HM2 := Lib.hid hm
      have HN2 := Lib.hid he
      have B2 := Lib.hid hb
      have sy := hb.size
      rw [HBQ.out] at sy
      have hlm : (s2.l.length : Int) ≤ most := by rw [← hm]; exact ho.ln
      have hlast : ¬ s2.mark < last := by omega
      have i1 := Lib.hid (show s2.is s2.mark = false by
        have hh : ¬ s2.is s2.mark = true := fun hh => has_not_mark ho ((is_iff _ _).1 hh).2
        simpa using hh)
      have i2 := Lib.hid (show s2.is 0 = false by
        have hh : ¬ s2.is 0 = true := fun hh => ((is_iff _ _).1 hh).1 rfl
        simpa using hh)
      clear hw ho hm he hb HE1 HO1 HM1 HN1 B1
      go_wp2_with fail
      refine (mark_any B B V2 s2 _ HE2.out.a).mono ?_
      rintro e w5 ⟨rfl, rfl⟩
      go_wp2_with fail
      refine (len_any B B V2 s2 _ HE2.out.a).mono ?_
      rintro e w5 ⟨rfl, rfl⟩
      go_wp2_with fail
      refine (mark_any B B V2 s2 _ HE2.out.a).mono ?_
      rintro e w5 ⟨rfl, rfl⟩
      go_wp2_with fail
      refine (is_any B B V2 s2 s2.mark _ HE2.out.a HO2.out).mono ?_
      rintro e w5 ⟨rfl, q5, rfl⟩
      rw [i1.out]
      go_wp2_with fail
      refine (is_any B B V2 s2 0 _ HE2.out.a.dn HO2.out).mono ?_
      rintro e w6 ⟨rfl, q6, rfl⟩
      rw [i2.out]
      go_wp2_with fail
      refine (mark_any B B V2 s2 _ HE2.out.a.dn).mono ?_
      rintro e w7 ⟨rfl, rfl⟩
      go_wp2_with fail
      have HE3 := Lib.hid (HE2.out.kept (Kept.dn _ _ (q5 + q6)))
      have B3 := Lib.hid (below_dn (n := q5 + q6) B2.out)
      clear HE2 B2 i1 i2
      generalize hwz : wc.drewN (q5 + q6) = wz at *
      clear hwz
      go_loopw [12] (fun i wq => ∃ (j : Nat), i = .int .i64 j ∧ j ≤ dl1.length ∧ Ev B V2 (.slice D1 dl1.length dc1) s2 dl1 wq ∧ Below B w wq) (fun i _ => dl1.length - (intOf i).toNat)
      case atStart => exact ⟨0, rfl, Nat.zero_le _, HE3.out, B3.out⟩
      case round =>
        obtain ⟨j, rfl, hj, hw, hb⟩ := hrel
        have HE4 := Lib.hid hw
        have B4 := Lib.hid hb
        clear hw hb
        by_cases hjl : j < dl1.length
        · obtain ⟨b3, o3, rfl, c4⟩ := (Rd.of_own HE4.out.d).at j hjl
          have i3 := Lib.hid (show s2.is dl1[j] = true from (is_iff _ _).2 (HN2.out _ (List.getElem_mem hjl)))
          generalize dl1[j] = z at *
          go_wp2_with fail
          refine (is_any B B V2 s2 z _ HE4.out.a HO2.out).mono ?_
          rintro e w7 ⟨rfl, q7, rfl⟩
          rw [i3.out]
          go_wp2_with fail
          go_roundw
          case rel => exact ⟨j + 1, by go_num, by omega, HE4.out.kept (Kept.dn _ _ _), below_dn B4.out⟩
          case measure => simp [intOf]; omega
        · go_wp2_with fail
          go_roundw
          case rel => exact ⟨k + 1, V2, s2, dl1, s2.mark, rfl, by go_num, by omega, HE4.out, HO2.out, HM2.out, HN2.out, Int.le_refl _, hdl1, B4.out⟩
          case measure => simp [intOf]; omega
    · go_wp2_with fail
      go_wp2_with fail
      refine (awake_any _).mono ?_
      rintro e w3 ⟨rfl, hb3⟩
      go_wp2_with fail
      go_ret
      refine ⟨rfl, ?_⟩
      rw [HBQ.out]
      exact HBk.out.trans (hb3.mono sk)
theorem ever_any (most : Int) (l r : List Int) (v u : Value) (w : World) (h : Rd w 1 v l.length (l.map (Value.int .u64))) (h' : Rd w 1 u r.length (r.map (Value.int .u64))) (hg : ∀ x ∈ l, 0 ≤ x) (hg' : ∀ x ∈ r, 0 ≤ x) : Calls Try.prog 6 #[.int .i64 most, v, u] w (TrueBelow w) := by
  by_cases hc : (1 ≤ most ∧ most ≤ 50) ∧ l.length ≤ 80 ∧ r.length ≤ 80
  · exact ever_in most l r v u w h h' hc.2.1 hc.2.2 hg hg' hc.1.1 hc.1.2
  · have hc2 : most < 1 ∨ (1 ≤ most ∧ 50 < most) ∨ (1 ≤ most ∧ most ≤ 50 ∧ 80 < l.length) ∨ (1 ≤ most ∧ most ≤ 50 ∧ l.length ≤ 80 ∧ 80 < r.length) := by omega
    obtain ⟨v, cp, rfl, h1, h2⟩ := h.form
    obtain ⟨u, cq, rfl, h3, h4⟩ := h'.form
    clear h h' hc
    rcases hc2 with h | ⟨h, h5⟩ | ⟨h, h5, h6⟩ | ⟨h, h5, h6, h7⟩
    all_goals
      go_enter Try.func6, Try.ntmps6
      go_wp2_with fail
      refine (awake_any _).mono ?_
      rintro e w2 ⟨rfl, hb⟩
      go_wp2_with fail
      go_ret
      exact ⟨rfl, hb⟩
end Go.Proofs.Ytcdllhbifdgfaaa
