/- Who waits (chapter 18): whose turn it is. -/
import Derived.Test.YtohjnplhmbfjlaaPuB
import Derived.Laws.EntriesVeiled
namespace Go.Proofs.Ytohjnplhmbfjlaa
open Go.RowKit

abbrev TPp : TypeId := 55
abbrev TFn : TypeId := 71
theorem next1_any (x : Fl) (W : World) : Calls Try.prog 31 (#[.agg #[.int .u64 x.id, .int .i64 x.wt, .int .i64 x.pl]] ++ #[]) W fun e w' => e = .returned (.bool (decide (0 < x.wt))) ∧ Below W.heap.size W w' := by
  show Calls Try.prog 31 #[.agg #[.int .u64 x.id, .int .i64 x.wt, .int .i64 x.pl]] W _
  go_enter Try.func31, Try.ntmps31
  go_wp2_with fail
  go_ret
  exact ⟨rfl, (Below.refl _ _).alloc (Nat.le_refl _) _⟩
set_option maxHeartbeats 2000000 in
theorem next2_any (x : Fl) (Z : Int) (b o X Y : Nat) (W : World) (hX : Ob W X #[.pointer (some ⟨b, o, none⟩)] TPp) (hY : Ob W Y #[.func (.func 31) #[] #[]] TFn) (hz : W.cell? ⟨b, o + 1, none⟩ = some (.int .u64 Z)) (hb : b < W.heap.size) :
    Calls Try.prog 33 (#[.agg #[.int .u64 x.id, .int .i64 x.wt, .int .i64 x.pl]] ++ #[.pointer (some ⟨X, 0, none⟩), .pointer (some ⟨Y, 0, none⟩)]) W fun e w' => e = .returned (.bool (decide (Z < x.id) && decide (0 < x.wt))) ∧ Below W.heap.size W w' := by
  show Calls Try.prog 33 #[.agg #[.int .u64 x.id, .int .i64 x.wt, .int .i64 x.pl], .pointer (some ⟨X, 0, none⟩), .pointer (some ⟨Y, 0, none⟩)] W _
  obtain ⟨lX, cX, _⟩ := hX.blk
  obtain ⟨lY, cY, _⟩ := hY.blk
  have cX0 : W.cell? ⟨X, 0, none⟩ = some (.pointer (some ⟨b, o, none⟩)) := cX 0
  have cY0 : W.cell? ⟨Y, 0, none⟩ = some (.func (.func 31) #[] #[]) := cY 0
  have eg := enters_of Try.func31 (by kernel_rfl) rfl
  clear cX cY hX hY
  by_cases hq : Z < x.id
  · have hd : decide (Z < x.id) = true := decide_eq_true hq
    have HD := Lib.hid hd
    clear hq
    go_enter Try.func33, Try.ntmps33
    go_wp2_with fail
    refine wp_run (M := (fun _ => False)) (stages [([true, true, true, true, true, true, true, true, true, true, false, false, false], 10)] [false, false, false, false, false, false, false, false, false, false, false, true, true]) (by kernel_rfl) (by kernel_rfl) ?_
    refine run_stage rfl ?_
    simp only [pickAt]
    repeat (go_big_quiet_step (fail))
    refine wpQuiet_nil ?_
    refine run_want rfl ?_
    intro A hA
    go_simp
    refine (next1_any x _).mono ?_
    rintro e w1 ⟨rfl, hb1⟩
    have HB1 := Lib.hid hb1
    refine hA _ _ ((Kept.of_below hb1)) ?_
    try simp only [Act.put, List.setIfInBounds_toArray, List.set_cons_zero, List.set_cons_succ]
    clear A hA
    clear hb1
    refine run_last ?_
    simp only [pickAt]
    repeat (go_big_quiet_step (fail))
    refine wpQuiet_nil ?_
    go_wp2_with fail
    go_ret
    exact ⟨by rw [HD.out]; rfl, ((Below.refl _ _).alloc (Nat.le_refl _) (.cells #[.int .u64 x.id, .int .i64 x.wt, .int .i64 x.pl] TF)).drew.trans (HB1.out.mono (by simp [World.drew]))⟩
  · have hd : decide (Z < x.id) = false := decide_eq_false hq
    have HD := Lib.hid hd
    clear hq
    go_enter Try.func33, Try.ntmps33
    go_wp2_with fail
    refine wp_region_quiet_lit (by kernel_rfl) (by kernel_rfl) ?_
    try simp only [List.append]
    repeat (first | go_big_quiet_step (fail) | quiet_step (fail))
    refine wpQuiet_nil ?_
    intro W1 hW1
    have hk := kept_ex hW1
    clear hW1
    go_wp2_with fail
    go_ret
    exact ⟨by rw [HD.out]; rfl, ((Below.refl _ _).alloc (Nat.le_refl _) (.cells #[.int .u64 x.id, .int .i64 x.wt, .int .i64 x.pl] TF)).trans (hk.below.mono (by simp))⟩
theorem find_idx {p : Fl → Bool} {l : List Fl} {w w' : World} {e : Ending} (h : Find_fl p l w e w') : Below w.heap.size w w' ∧ ((e = .returned (.int .i64 (-1)) ∧ l.findIdx? p = none) ∨ ∃ i : Nat, e = .returned (.int .i64 i) ∧ l.findIdx? p = some i) := by
  obtain ⟨hb, ⟨h1, h2⟩ | ⟨i, h1, ⟨h2, h3⟩, h4⟩⟩ := h
  · exact ⟨hb, .inl ⟨h1, List.findIdx?_eq_none_iff.2 h2⟩⟩
  · refine ⟨hb, .inr ⟨i, h1, List.findIdx?_eq_some_iff_getElem.2 ⟨h2, h3, fun j hj => ?_⟩⟩⟩
    have := h4 l[j] (by rw [List.mem_take_iff_getElem]; exact ⟨j, by omega, rfl⟩)
    simp [this]
def pick (l : List Fl) (Z : Int) : Option Nat := (l.findIdx? (fun y => decide (Z < y.id) && decide (0 < y.wt))).or (l.findIdx? (fun y => decide (0 < y.wt)))
theorem pick_one {l : List Fl} {Z : Int} (h : l.findIdx? (fun y => decide (Z < y.id) && decide (0 < y.wt)) = none) : pick l Z = l.findIdx? (fun y => decide (0 < y.wt)) := by
  unfold pick; rw [h]; rfl
theorem pick_two {l : List Fl} {Z : Int} {i : Nat} (h : l.findIdx? (fun y => decide (Z < y.id) && decide (0 < y.wt)) = some i) : pick l Z = some i := by
  unfold pick; rw [h]; rfl
def optI : Option Nat → Int
  | none => -1
  | some i => i
set_option maxRecDepth 100000 in
set_option maxHeartbeats 2000000 in
theorem next_peer (b B0 : Nat) (V : Nat → Value) (s : Ps) (p : Nat) (w : World) (h : Pu b B0 V s w) (hp : p < 8) (hl : (s.L p).length ≤ 1000000) :
    Calls Try.prog 22 #[.pointer (some ⟨b, 3 + p * 2, none⟩)] w fun e w' => e = .returned (.int .i64 (optI (pick (s.L p) (s.Z p)))) ∧ Below w.heap.size w w' := by
  have HP := Lib.hid h
  have lb := h.ob.lt
  obtain ⟨a, c, hv, _, _⟩ := (Rd.of_own (h.own p hp)).form
  have HV := Lib.hid hv
  clear h hv
  go_enter Try.func22, Try.ntmps22
  go_upto_region 2 with fail
  have OX := Lib.hid ((Ob.new w #[.pointer (some ⟨b, 3 + p * 2, none⟩)] TPp).alloc (.cells #[.func (.func 31) #[] #[]] TFn))
  have OY := Lib.hid (Ob.new (w.alloc (.cells #[.pointer (some ⟨b, 3 + p * 2, none⟩)] TPp)) #[.func (.func 31) #[] #[]] TFn)
  rw [World.size_alloc] at OY
  have HB1 := Lib.hid (((Below.refl w.heap.size w).alloc (Nat.le_refl _) (.cells #[.pointer (some ⟨b, 3 + p * 2, none⟩)] TPp)).alloc (by rw [World.size_alloc]; omega) (.cells #[.func (.func 31) #[] #[]] TFn))
  generalize (w.alloc (.cells #[.pointer (some ⟨b, 3 + p * 2, none⟩)] TPp)).alloc (.cells #[.func (.func 31) #[] #[]] TFn) = W at *
  obtain ⟨X, HX⟩ : ∃ X, Hid (w.heap.size = X) := ⟨_, Lib.hid rfl⟩
  rw [HX.out] at OX OY ⊢
  have HPW := Lib.hid (HP.out.below HB1.out)
  obtain ⟨lX, cX, _⟩ := OX.out.blk
  have cX0 : W.cell? ⟨X, 0, none⟩ = some (.pointer (some ⟨b, 3 + p * 2, none⟩)) := cX 0
  obtain ⟨lb2, cb, _⟩ := HPW.out.ob.blk
  have cv : W.cell? ⟨b, 3 + p * 2, none⟩ = some (.slice a (s.L p).length c) := by rw [cb, ← HV.out]; exact p_get _ _ hp
  have cz : W.cell? ⟨b, 3 + p * 2 + 1, none⟩ = some (.int .u64 (s.Z p)) := by rw [cb]; exact p_getZ _ _ hp
  have HCZ := Lib.hid cz
  have hrd := Rd.of_own (HPW.out.own p hp)
  rw [HV.out] at hrd
  have HRD := Lib.hid hrd
  have eg1 := enters_of Try.func31 (by kernel_rfl) rfl
  clear cX cb cz hrd lb
  go_wp2_with fail
  refine (index_fl 33 #[.pointer (some ⟨X, 0, none⟩), .pointer (some ⟨X + 1, 0, none⟩)] (fun y => decide (s.Z p < y.id) && decide (0 < y.wt)) (s.L p) _ _ (enters_of Try.func33 (by kernel_rfl) rfl) HRD.out hl (fun W' x hB => next2_any x (s.Z p) b (3 + p * 2) X (X + 1) W' (OX.out.below hB) (OY.out.below hB) (by rw [← HCZ.out]; exact hB.cell lb2) (Nat.lt_of_lt_of_le lb2 hB.size))).mono ?_
  intro e w2 hf0
  obtain ⟨hb2, hf⟩ := find_idx hf0
  clear hf0
  have HB2 := Lib.hid (HB1.out.trans (hb2.mono HB1.out.size))
  have HPW2 := Lib.hid (HPW.out.below hb2)
  have OX2 := Lib.hid (OX.out.below hb2)
  have OY2 := Lib.hid (OY.out.below hb2)
  clear hb2 cX0 cv
  rcases hf with ⟨rfl, hf⟩ | ⟨i, rfl, hf⟩
  · have HF := Lib.hid hf
    clear hf lX lb2
    obtain ⟨lX, cX, _⟩ := OX2.out.blk
    have cX0 : w2.cell? ⟨X, 0, none⟩ = some (.pointer (some ⟨b, 3 + p * 2, none⟩)) := cX 0
    obtain ⟨lY, cY, _⟩ := OY2.out.blk
    have cY0 : w2.cell? ⟨X + 1, 0, none⟩ = some (.func (.func 31) #[] #[]) := cY 0
    obtain ⟨lb2, cb, _⟩ := HPW2.out.ob.blk
    have cv : w2.cell? ⟨b, 3 + p * 2, none⟩ = some (.slice a (s.L p).length c) := by rw [cb, ← HV.out]; exact p_get _ _ hp
    have hrd := Rd.of_own (HPW2.out.own p hp)
    rw [HV.out] at hrd
    have HRD2 := Lib.hid hrd
    clear cX cY cb hrd
    go_wp2_with fail
    refine wp_run (M := (fun _ => False)) (stages [([true, true, true, true, true, false, false], 5)] [false, false, false, false, false, false, true]) (by kernel_rfl) (by kernel_rfl) ?_
    refine run_stage rfl ?_
    simp only [pickAt]
    repeat (go_big_quiet_step (fail))
    refine wpQuiet_nil ?_
    refine run_want rfl ?_
    intro A hA
    go_simp
    refine (index_fl 31 #[] (fun y => decide (0 < y.wt)) (s.L p) _ _ eg1 (HRD2.out.keptF (Kept.drew _ _)) hl (fun W' x _ => next1_any x W')).mono ?_
    intro e w3 hf0
    obtain ⟨hb3, hf⟩ := find_idx hf0
    clear hf0
    have HB3 := Lib.hid (HB2.out.drew.trans (hb3.mono HB2.out.size))
    rcases hf with ⟨rfl, hf⟩ | ⟨i, rfl, hf⟩
    iterate 2
      · have HG := Lib.hid hf
        refine hA _ _ ((Kept.of_below hb3)) ?_
        try simp only [Act.put, List.setIfInBounds_toArray, List.set_cons_zero, List.set_cons_succ]
        clear A hA
        clear hb3 hf
        refine run_last ?_
        simp only [pickAt]
        repeat (go_big_quiet_step (fail))
        refine wpQuiet_nil ?_
        go_wp2_with fail
        go_ret
        have hpk := pick_one HF.out
        rw [HG.out] at hpk
        exact ⟨by rw [hpk]; rfl, HB3.out⟩
  · have HF := Lib.hid hf
    clear hf
    go_wp2_with fail
    go_ret
    exact ⟨by rw [pick_two HF.out]; rfl, HB2.out⟩
end Go.Proofs.Ytohjnplhmbfjlaa
