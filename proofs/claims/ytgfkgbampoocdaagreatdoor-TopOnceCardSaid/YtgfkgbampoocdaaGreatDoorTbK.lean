/- What a host gets (chapter 20): NewReceivers. -/
import Derived.Test.YtgfkgbampoocdaaGreatDoorTbJ
namespace Go.Proofs.YtgfkgbampoocdaaGreatDoor
open Go.RowKit

theorem wpList_makeAs {P : Program} (w : World) {ops : Array Oper} {rest : List Oper} {o : Oper} {a : Act} {Q : Exit → Act → World → Prop} (hg : o.guard = none) (l c : Operand) (t : TypeId) (hop : o.op = Op.makeSlice t l c) {v : Value} {w' : World} (hrun : (Instr.makeSlice t (a.eval l) (a.eval c)).run P w = .ok v w') (hK : wpList P ops Q rest (a.put o.dst v) w') : wpList P ops Q (o :: rest) a w := by
  refine wpList_plain hg fun K hK' => ?_
  unfold Oper.wp
  simp [execOp, hop, hrun, Result.andThen]
  exact hK' _ _ hK
set_option maxRecDepth 100000 in
theorem make_slots (w : World) : (Instr.makeSlice 120 (.int .i64 8) (.int .i64 8)).run Tryz.prog w = .ok (.slice (some ⟨w.heap.size, 0, none⟩) 8 8) (w.alloc (.cells (slc none) TSlot)) := by
  obtain ⟨i0, hi0, hz0, hs0, hb0⟩ := info_parts (show (Tryz.prog.info? TSlot).map (fun i => (i.zero, i.size, i.bytes)) = some (some (.agg #[.bool false, .int .i64 0, .int .u64 0, .pointer none]), 4, 32) by kernel_rfl)
  have h := run_make (P := Tryz.prog) w 120 TSlot i0 _ (by rfl) hi0 hz0 .i64 .i64 8 8 (by decide) (by decide) (by rw [hb0]; decide) (by decide)
  rw [hs0] at h
  have hm : madeCells (Value.agg #[.bool false, .int .i64 0, .int .u64 0, .pointer none]).cells ((8 : Int).toNat * 4) = slc none := by kernel_rfl
  rw [hm] at h
  exact h
set_option maxRecDepth 100000 in
theorem table_new (w : World) : Calls Tryz.prog 24 #[.int .i64 100] w fun e w' => ∃ t s, e = .returned (.tuple #[.pointer (some ⟨t, 0, none⟩), .int .i64 0]) ∧ Tb t s none w' ∧ w.heap.size ≤ t ∧ w.heap.size ≤ s ∧ Kept (fun _ => False) w w' := by
  go_enter Tryz.func24, Tryz.ntmps24
  go_wp2_with (refine wpList_makeAs _ rfl (.const (.int .i64 8)) (.const (.int .i64 8)) _ rfl (make_slots _) ?_)
  go_ret2
  have h1 := Ob.new (w.alloc (.cells (slc none) TSlot)) #[.int .i64 100, .int .i64 0, .slice (some ⟨w.heap.size, 0, none⟩) 8 8] TTb
  rw [World.size_alloc] at h1
  exact ⟨_, _, rfl, ⟨h1, (Ob.new w (slc none) TSlot).alloc _⟩, Nat.le_succ _, Nat.le_refl _, ((Kept.refl _ w).alloc _).alloc _⟩
theorem may_yes (w : World) : Calls Tryz.prog 23 #[.int .i64 100, .int .i64 1000] w fun e w' => e = .returned (.bool true) ∧ w = w' := by
  go_enter Tryz.func23, Tryz.ntmps23
  go_wp2_with fail
  go_ret
  exact ⟨rfl, rfl⟩
def rq (t : Nat) (q : Nat → Value) : Array Value := #[.int .i64 1000, .pointer (some ⟨t, 0, none⟩), q 0, q 1, q 2, q 3, q 4, q 5, q 6, q 7, .int .i64 0, .int .i64 0, .int .i64 0, .int .i64 0, .int .i64 0, .int .i64 0, .int .i64 0, .int .i64 0, .int .i64 100, .slice none 0 0]
def updV (q : Nat → Value) (k : Nat) (v : Value) : Nat → Value := fun j => if j = k then v else q j
theorem rq_set (t : Nat) (q : Nat → Value) (k : Nat) (v : Value) (h : k < 8) : (rq t q).setIfInBounds (2 + k) v = rq t (updV q k v) := by
  match k, h with
  | 0, _ => rfl
  | 1, _ => rfl
  | 2, _ => rfl
  | 3, _ => rfl
  | 4, _ => rfl
  | 5, _ => rfl
  | 6, _ => rfl
  | 7, _ => rfl
theorem rq_at (t : Nat) (q : Nat → Value) (k : Nat) (h : k < 8) : (rq t q)[2 + k]? = some (q k) := by
  match k, h with
  | 0, _ => rfl
  | 1, _ => rfl
  | 2, _ => rfl
  | 3, _ => rfl
  | 4, _ => rfl
  | 5, _ => rfl
  | 6, _ => rfl
  | 7, _ => rfl
set_option maxRecDepth 100000 in
set_option maxHeartbeats 1000000 in
theorem new_rv (w : World) : Calls Tryz.prog 5 #[.int .i64 100, .int .i64 1000] w fun e w' => ∃ r, e = .returned (.tuple #[.pointer (some ⟨r.R, 0, none⟩), .int .i64 0]) ∧ Rv r w.heap.size (.slice none 0 0) ⟨100, 1, []⟩ 0 none (.slice none 0 0) 0 [] w' ∧ Kept (fun _ => False) w w' := by
  go_enter Tryz.func5, Tryz.ntmps5
  go_wp2_with fail
  refine (may_yes _).mono ?_
  rintro e w1 ⟨rfl, rfl⟩
  go_wp2_with fail
  refine (table_new _).mono ?_
  rintro e w1 ⟨t, s, rfl, ht, h1, h2, hk⟩
  have HT := Lib.hid ht
  have HK := Lib.hid hk
  clear ht hk
  go_wp2_with fail
  have HT1 := Lib.hid (HT.out.keptF ((Kept.refl _ w1).alloc (.cells (rq t fun _ => .pointer none) TRv)))
  have HK1 := Lib.hid (HK.out.alloc (.cells (rq t fun _ => .pointer none) TRv))
  have HO1 := Lib.hid (Ob.new w1 (rq t fun _ => .pointer none) TRv)
  have sR := HK.out.size
  change (Code.wp _ _ _ _ (w1.alloc (.cells (rq t fun _ => .pointer none) TRv)))
  generalize w1.alloc (.cells (rq t fun _ => .pointer none) TRv) = w2 at *
  obtain ⟨R, HR⟩ : ∃ R, Hid (w1.heap.size = R) := ⟨_, Lib.hid rfl⟩
  rw [HR.out] at HO1 sR ⊢
  go_loopw [9, 24] (fun c i wr => ∃ (k : Nat) (q : Nat → Value), i = .int .i64 k ∧ k ≤ 8 ∧ Ob wr R (rq t q) TRv ∧ Tb t s none wr ∧ Kept (fun _ => False) w wr ∧ (3 < k → ∃ m, q 3 = .pointer (some ⟨m, 0, none⟩) ∧ Wi m w.heap.size (.slice none 0 0) ⟨100, 1, []⟩ wr)) (fun _ i _ => 8 - (intOf i).toNat)
  case atStart => exact ⟨0, _, rfl, by decide, HO1.out, HT1.out, HK1.out, fun h => absurd h (by decide)⟩
  case round =>
    obtain ⟨k, q, rfl, hk, ho, ht, hkk, hm⟩ := hrel
    have HO := Lib.hid ho
    have HT2 := Lib.hid ht
    have HK2 := Lib.hid hkk
    have HM := Lib.hid hm
    clear ho ht hkk hm
    by_cases hlt : k < 8
    · have hd : decide ((k : Int) < 8) = true := decide_eq_true (by omega)
      obtain ⟨lb, cb, fb⟩ := HO.out.blk
      have ck := (cb _).trans (rq_at t q k hlt)
      clear cb
      go_wp2_with fail
      refine wp_run (M := (Only R)) (stages [([true, true, true, false, false, false, false, true, true, false, false], 3), ([false, false, false, false, true, true, true, false, false, true, false], 10)] [false, false, false, false, false, false, false, false, false, false, false]) (by kernel_rfl) (by kernel_rfl) ?_
      refine run_stage rfl ?_
      simp only [pickAt]
      repeat (go_big_quiet_step (fail))
      refine wpQuiet_nil ?_
      refine run_want rfl ?_
      intro A hA
      go_simp
      refine (new_yes 100 _ (by decide)).mono ?_
      rintro e w3 ⟨rfl, hw, hb⟩
      have hk3 : Kept (fun _ => False) wr.drew w3 := Kept.of_below hb
      have HO3 := Lib.hid (HO.out.drew.kept hk3 id)
      have HT3 := Lib.hid ((HT2.out.keptF (Kept.drew _ _)).keptF hk3)
      have HM3 : Hid (3 < k → ∃ m, q 3 = .pointer (some ⟨m, 0, none⟩) ∧ Wi m w.heap.size (.slice none 0 0) ⟨100, 1, []⟩ w3) := Lib.hid (fun h => by
        obtain ⟨m, e1, e2⟩ := HM.out h
        exact ⟨m, e1, e2.drew.kept hk3 fun _ _ h => h⟩)
      have hs := HK2.out.size
      have HW3 := Lib.hid (show Wi wr.drew.heap.size w.heap.size (.slice none 0 0) ⟨100, 1, []⟩ w3 from ⟨hw.ob, World.ownsRow_nil _ _ _ _, hw.ne, hs⟩)
      have HK3 := Lib.hid ((HK2.out.trans (Kept.drew _ _)).trans hk3)
      have hlm : Hid (wr.drew.heap.size ≠ R) := Lib.hid (fun e => by have := HO.out.drew.lt; omega)
      generalize wr.drew.heap.size = m3 at *
      refine hA _ _ ((hk3.mono fun _ _ h => h.elim)) ?_
      try simp only [Act.put, List.setIfInBounds_toArray, List.set_cons_zero, List.set_cons_succ]
      clear A hA
      clear hw hb hk3 hs lb fb ck
      obtain ⟨lb, cb, fb⟩ := HO3.out.blk
      have ck := (cb _).trans (rq_at t q k hlt)
      clear cb
      refine run_stage rfl ?_
      simp only [pickAt]
      repeat (go_big_quiet_step (fail))
      refine wpQuiet_nil ?_
      refine run_want rfl ?_
      intro A hA
      go_simp
      refine hA _ _ ((Kept.refl _ w3).setO) ?_
      try simp only [Act.put, List.setIfInBounds_toArray, List.set_cons_zero, List.set_cons_succ]
      clear A hA
      refine run_last ?_
      simp only [pickAt]
      repeat (go_big_quiet_step (fail))
      refine wpQuiet_nil ?_
      go_wp2_with fail
      have hkO : Kept (Only R) w3 (w3.setCell ⟨R, 2 + k, none⟩ (.pointer (some ⟨m3, 0, none⟩))) := (Kept.refl _ w3).setO
      have nR : ∀ y, Only R y → y = R := fun _ h => h
      have nO : ∀ y cs T, Ob w3 y cs T → T ≠ TRv → ¬ Only R y := fun y cs T hy hT hh => ob_ne hy HO3.out hT (nR y hh)
      have hwi : ∀ m, Wi m w.heap.size (.slice none 0 0) ⟨100, 1, []⟩ w3 → Wi m w.heap.size (.slice none 0 0) ⟨100, 1, []⟩ (w3.setCell ⟨R, 2 + k, none⟩ (.pointer (some ⟨m3, 0, none⟩))) := fun m h => h.kept hkO fun y hy => by
        rcases hy with rfl | hy
        · exact nO _ _ _ h.ob (by decide)
        · cases hy
      go_roundw
      case rel =>
        refine ⟨k + 1, _, by go_num, by omega, Ob.cast (HO3.out.set (2 + k) (.pointer (some ⟨m3, 0, none⟩))) (rq_set t q k _ hlt), HT3.out.kept hkO (nO _ _ _ HT3.out.ob (by decide)) (nO _ _ _ HT3.out.sl (by decide)), HK3.out.comp hkO fun y hy => .inr (by rw [nR y hy]; exact sR), fun h3 => ?_⟩
        by_cases h4 : k = 3
        · subst h4
          exact ⟨m3, rfl, hwi _ HW3.out⟩
        · obtain ⟨m, e1, e2⟩ := HM3.out (by omega)
          exact ⟨m, (if_neg (Ne.symm h4)).trans e1, hwi _ e2⟩
      case measure => simp [intOf]; omega
    · have hk8 : k = 8 := by omega
      subst hk8
      go_wp2_with fail
      go_ret2
      obtain ⟨m, hm1, hm2⟩ := HM.out (by decide)
      have ho := HO.out
      unfold rq at ho
      rw [hm1] at ho
      exact ⟨⟨R, t, s, m, ⟨q 0, q 1, q 2, q 4, q 5, q 6, q 7⟩⟩, rfl, ⟨ho, HT2.out, hm2, World.ownsRow_nil _ _ _ _, sR, h1, h2⟩, HK2.out⟩
end Go.Proofs.YtgfkgbampoocdaaGreatDoor
