/- A table that holds one thing, or nothing (chapter 8): Delete, Keys. -/
import Derived.Test.YtgfkgbampoocdaaGreatDoorTbA
import Derived.Test.YtgfkgbampoocdaaGreatDoorTopRun
namespace Go.Proofs.YtgfkgbampoocdaaGreatDoor
open Go.RowKit

set_option maxRecDepth 100000 in
theorem del_one (t s : Nat) (id : Int) (v : Value) (w : World) (h : Tb t s (some (id, v)) w) : Calls Tryz.prog 69 #[.pointer (some ⟨t, 0, none⟩), .agg #[.int .i64 3, .int .u64 id]] w fun e w' => e = .returned (.int .i64 0) ∧ Tb t s none w' ∧ Kept (fun x => x = t ∨ x = s) w w' := by
  have HT := Lib.hid h
  have HN := Lib.hid h.ne
  obtain ⟨_, h8⟩ := hm_int id
  clear h
  go_enter Tryz.func69, Tryz.ntmps69
  go_wp2_with fail
  refine (has_any t s _ id _ (HT.out.keptF ((Kept.refl _ _).alloc _)) (fun i v e => by cases e; rfl)).mono ?_
  rintro e w1 ⟨rfl, hk1⟩
  have HT1 := Lib.hid ((HT.out.keptF ((Kept.refl _ _).alloc (.cells #[.int .i64 3, .int .u64 id] TKey))).keptF hk1)
  have HK1 := Lib.hid (((Kept.refl (fun _ => False) w).alloc (.cells #[.int .i64 3, .int .u64 id] TKey)).trans hk1)
  obtain ⟨i, HI⟩ : ∃ i, Hid (hm id = i) := ⟨_, Lib.hid rfl⟩
  rw [HI.out] at h8 ⊢
  obtain ⟨lb, cb, fb⟩ := HT1.out.ob.blk
  have c1 : w1.cell? ⟨t, 1, none⟩ = some (.int .i64 1) := cb 1
  have c2 : w1.cell? ⟨t, 2, none⟩ = some (.slice (some ⟨s, 0, none⟩) 8 8) := cb 2
  obtain ⟨ls, cs, fs⟩ := HT1.out.sl.blk
  obtain ⟨x0, u0⟩ := slc_cells (some (id, v)) (i * 4) (by omega)
  obtain ⟨x1, u1⟩ := slc_cells (some (id, v)) (i * 4 + 1) (by omega)
  obtain ⟨x2, u2⟩ := slc_cells (some (id, v)) (i * 4 + 2) (by omega)
  obtain ⟨x3, u3⟩ := slc_cells (some (id, v)) (i * 4 + 3) (by omega)
  have u0 := (cs _).trans u0
  have u1 := (cs _).trans u1
  have u2 := (cs _).trans u2
  have u3 := (cs _).trans u3
  have hst : ¬ s = t := fun e => HN.out e.symm
  clear hk1 cb cs
  obtain ⟨j, hj8, hj⟩ : ∃ j : Nat, j < 8 ∧ ((i : Int) + 1).tmod 8 = (j : Int) := by
    refine ⟨(i + 1) % 8, Nat.mod_lt _ (by decide), ?_⟩
    rw [Int.tmod_eq_emod_of_nonneg (by omega)]
    omega
  go_wp2_with fail
  have HS4 := Lib.hid ((Ob.cast ((((HT1.out.sl.set (i * 4) (.bool false)).set (i * 4 + 1) (.int .i64 0)).set (i * 4 + 2) (.int .u64 0)).set (i * 4 + 3) (.pointer none)) (slc_del id v i HI.out h8)).other ⟨t, 1, none⟩ (.int .i64 0) (fun e => HN.out e.symm))
  have HO4 := Lib.hid (Ob.cast (((((HT1.out.ob.other ⟨s, i * 4, none⟩ (.bool false) HN.out).other ⟨s, i * 4 + 1, none⟩ (.int .i64 0) HN.out).other ⟨s, i * 4 + 2, none⟩ (.int .u64 0) HN.out).other ⟨s, i * 4 + 3, none⟩ (.pointer none) HN.out).set 1 (.int .i64 0)) rfl)
  have HK4 : Hid (Kept (fun x => x = t ∨ x = s) w (((((w1.setCell ⟨s, i * 4, none⟩ (.bool false)).setCell ⟨s, i * 4 + 1, none⟩ (.int .i64 0)).setCell ⟨s, i * 4 + 2, none⟩ (.int .u64 0)).setCell ⟨s, i * 4 + 3, none⟩ (.pointer none)).setCell ⟨t, 1, none⟩ (.int .i64 0))) := Lib.hid (((((((HK1.out.mono fun _ _ h => h.elim).set ⟨s, i * 4, none⟩ _ fun _ => .inr rfl).set ⟨s, i * 4 + 1, none⟩ _ fun _ => .inr rfl).set ⟨s, i * 4 + 2, none⟩ _ fun _ => .inr rfl).set ⟨s, i * 4 + 3, none⟩ _ fun _ => .inr rfl)).set ⟨t, 1, none⟩ _ fun _ => .inl rfl)
  generalize ((((w1.setCell ⟨s, i * 4, none⟩ (.bool false)).setCell ⟨s, i * 4 + 1, none⟩ (.int .i64 0)).setCell ⟨s, i * 4 + 2, none⟩ (.int .u64 0)).setCell ⟨s, i * 4 + 3, none⟩ (.pointer none)).setCell ⟨t, 1, none⟩ (.int .i64 0) = w4 at *
  clear c1 c2 u0 u1 u2 u3 lb fb ls fs
  obtain ⟨lb, cb, fb⟩ := HO4.out.blk
  have c2 : w4.cell? ⟨t, 2, none⟩ = some (.slice (some ⟨s, 0, none⟩) 8 8) := cb 2
  obtain ⟨ls, cs, fs⟩ := HS4.out.blk
  have u0 : w4.cell? ⟨s, j * 4, none⟩ = some (.bool false) := (cs _).trans (slc_none j hj8)
  clear cb cs
  refine wp_loop_rounds 1 ?_
  rw [rounds_succ]
  go_wp2_with fail
  go_ret
  exact ⟨rfl, ⟨HO4.out, HS4.out⟩, HK4.out⟩
theorem slc_none4 (j : Nat) (h : j < 8) : (slc none)[j * 4 + 1]? = some (.int .i64 0) ∧ (slc none)[j * 4 + 2]? = some (.int .u64 0) ∧ (slc none)[j * 4 + 3]? = some (.pointer none) := by
  match j, h with
  | 0, _ => exact ⟨rfl, rfl, rfl⟩
  | 1, _ => exact ⟨rfl, rfl, rfl⟩
  | 2, _ => exact ⟨rfl, rfl, rfl⟩
  | 3, _ => exact ⟨rfl, rfl, rfl⟩
  | 4, _ => exact ⟨rfl, rfl, rfl⟩
  | 5, _ => exact ⟨rfl, rfl, rfl⟩
  | 6, _ => exact ⟨rfl, rfl, rfl⟩
  | 7, _ => exact ⟨rfl, rfl, rfl⟩
noncomputable def Ev.isTup : Option (Ev.TV × Ev.Hp) → Bool
  | some (.t [], _) => true
  | _ => false
set_option maxRecDepth 100000 in
theorem sort_nil_run : Ev.isTup (Ev.ev 20 75 [.s (.c (.k (.slice none 0 0))), .s (.c (.f 76 []))] ⟨.nil, .z⟩) = true := by kernel_rfl
set_option maxRecDepth 100000 in
theorem sort_nil (w : World) : Calls Tryz.prog 75 #[.slice none 0 0, .func (.func 76) #[] #[]] w fun e w' => e = .returned (.tuple #[]) ∧ Kept (fun _ => False) w w' := by
  obtain ⟨H, h⟩ : ∃ H, Ev.ev 20 75 [.s (.c (.k (.slice none 0 0))), .s (.c (.f 76 []))] ⟨.nil, .z⟩ = some (.t [], H) := by
    have h := sort_nil_run
    unfold Ev.isTup at h
    split at h
    · exact ⟨_, by assumption⟩
    · cases h
  refine ((Ev.ev_ok w.heap.size 20 _ _ _ _ _ h).2 (fun _ => none) #[.slice none 0 0, .func (.func 76) #[] #[]] w rfl (Ev.sr_nil _ _ _) (Nat.le_refl _)).mono ?_
  rintro e w' ⟨u, φ', rfl, hu, hx⟩
  cases hu
  refine ⟨rfl, Kept.of_below ⟨hx.os, hx.tape, hx.output, hx.size, fun b hb => hx.frame b hb fun x o l ho => ?_⟩⟩
  rw [show (Ev.Hp.mk Ev.Tr.nil Ev.Bn.z).t.get x = none from Ev.Tr.get_nil x] at ho
  cases ho
set_option maxRecDepth 100000 in
theorem keys_none (t s : Nat) (w : World) (h : Tb t s none w) : Calls Tryz.prog 33 #[.pointer (some ⟨t, 0, none⟩)] w fun e w' => e = .returned (.slice none 0 0) ∧ Kept (fun _ => False) w w' := by
  have HT := Lib.hid h
  obtain ⟨lb, cb, fb⟩ := h.ob.blk
  have c2 : w.cell? ⟨t, 2, none⟩ = some (.slice (some ⟨s, 0, none⟩) 8 8) := cb 2
  clear h cb
  go_enter Tryz.func33, Tryz.ntmps33
  go_wp2_with fail
  go_loopw [2, 12] (fun o i wr => o = .slice none 0 0 ∧ ∃ k : Nat, i = .int .i64 k ∧ k ≤ 8 ∧ Kept (fun _ => False) w wr) (fun _ i _ => 8 - (intOf i).toNat)
  case atStart => exact ⟨rfl, 0, rfl, by omega, Kept.refl _ _⟩
  case round =>
    obtain ⟨rfl, k, rfl, hk8, hk⟩ := hrel
    have HKr := Lib.hid hk
    by_cases hlt : k < 8
    · obtain ⟨ls, cs, fs⟩ := (HT.out.keptF hk).sl.blk
      obtain ⟨e1, e2, e3⟩ := slc_none4 k hlt
      have u0 := (cs _).trans (slc_none k hlt)
      have u1 := (cs _).trans e1
      have u2 := (cs _).trans e2
      have u3 := (cs _).trans e3
      clear cs e1 e2 e3 hk
      go_wp2_with fail
      exact ⟨⟨rfl, k + 1, by go_num, by omega, HKr.out.alloc _⟩, by simp [intOf]; omega⟩
    · have hke : k = 8 := by omega
      subst hke
      clear hk
      go_wp2_with fail
      refine (sort_nil _).mono ?_
      rintro e w2 ⟨rfl, hk2⟩
      go_wp2_with fail
      go_ret
      exact ⟨rfl, HKr.out.trans hk2⟩
end Go.Proofs.YtgfkgbampoocdaaGreatDoor
