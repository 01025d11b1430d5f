/- A table that holds nothing, or one thing at its own slot (chapter 8): home, find, has. -/
import Derived.Test.YtgfkgbampoocdaaGreatDoorIds2
import Derived.Test.YtgfkgbampoocdaaGreatDoorRun
import Derived.Test.YtgfkgbampoocdaaGreatDoorTail
namespace Go.Proofs.YtgfkgbampoocdaaGreatDoor
open Go.RowKit

abbrev TTb : TypeId := 122
abbrev TSlot : TypeId := 145
abbrev TKey : TypeId := 73
/-- a number's own slot -/
def hm (id : Int) : Nat := ((IntKind.u64.wrap (IntKind.u64.wrap (id * 11400714819323198485) + IntKind.u64.wrap 41363546379469631787) / 1048576).tmod 8).toNat
theorem hm_int (id : Int) : wrap64 ((IntKind.u64.wrap (IntKind.u64.wrap (id * 11400714819323198485) + IntKind.u64.wrap 41363546379469631787) / 1048576).tmod 8) = (hm id : Int) ∧ hm id < 8 := by
  unfold hm
  obtain ⟨X, hX, h0, h1⟩ : ∃ X, IntKind.u64.wrap (IntKind.u64.wrap (id * 11400714819323198485) + IntKind.u64.wrap 41363546379469631787) = X ∧ 0 ≤ X ∧ X < 18446744073709551616 := by
    refine ⟨_, rfl, ?_⟩
    generalize IntKind.u64.wrap (id * 11400714819323198485) + IntKind.u64.wrap 41363546379469631787 = Y
    have : IntKind.u64.wrap Y = Y % 18446744073709551616 := by simp [IntKind.wrap, IntKind.signed, IntKind.bits]
    omega
  rw [hX]
  have h2 : 0 ≤ X / 1048576 := Int.ediv_nonneg h0 (by decide)
  rw [Int.tmod_eq_emod_of_nonneg h2]
  have h3 : 0 ≤ X / 1048576 % 8 ∧ X / 1048576 % 8 < 8 := by omega
  refine ⟨?_, by omega⟩
  have : wrap64 (X / 1048576 % 8) = X / 1048576 % 8 := by unfold wrap64; omega
  rw [this, Int.toNat_of_nonneg h3.1]
def slc (on : Option (Int × Value)) : Array Value := match on with
  | none => (List.flatten (List.replicate 8 [Value.bool false, .int .i64 0, .int .u64 0, .pointer none])).toArray
  | some (id, v) => (List.flatten (List.replicate (hm id) [Value.bool false, .int .i64 0, .int .u64 0, .pointer none]) ++ [Value.bool true, .int .i64 3, .int .u64 id, v] ++ List.flatten (List.replicate (7 - hm id) [Value.bool false, .int .i64 0, .int .u64 0, .pointer none])).toArray
theorem slc_none (j : Nat) (h : j < 8) : (slc none)[j * 4]? = some (.bool false) := by
  match j, h with
  | 0, _ => rfl
  | 1, _ => rfl
  | 2, _ => rfl
  | 3, _ => rfl
  | 4, _ => rfl
  | 5, _ => rfl
  | 6, _ => rfl
  | 7, _ => rfl
theorem slc_some (id : Int) (v : Value) : (slc (some (id, v)))[hm id * 4]? = some (.bool true) ∧ (slc (some (id, v)))[hm id * 4 + 1]? = some (.int .i64 3) ∧ (slc (some (id, v)))[hm id * 4 + 2]? = some (.int .u64 id) ∧ (slc (some (id, v)))[hm id * 4 + 3]? = some v ∧ ∀ j, j < 8 → j ≠ hm id → (slc (some (id, v)))[j * 4]? = some (.bool false) := by
  have h := (hm_int id).2
  unfold slc
  simp only
  generalize hm id = i at *
  match i, h with
  | 0, _ => exact ⟨rfl, rfl, rfl, rfl, fun j hj hn => by match j, hj with | 0, _ => exact absurd rfl hn | 1, _ => rfl | 2, _ => rfl | 3, _ => rfl | 4, _ => rfl | 5, _ => rfl | 6, _ => rfl | 7, _ => rfl⟩
  | 1, _ => exact ⟨rfl, rfl, rfl, rfl, fun j hj hn => by match j, hj with | 0, _ => rfl | 1, _ => exact absurd rfl hn | 2, _ => rfl | 3, _ => rfl | 4, _ => rfl | 5, _ => rfl | 6, _ => rfl | 7, _ => rfl⟩
  | 2, _ => exact ⟨rfl, rfl, rfl, rfl, fun j hj hn => by match j, hj with | 0, _ => rfl | 1, _ => rfl | 2, _ => exact absurd rfl hn | 3, _ => rfl | 4, _ => rfl | 5, _ => rfl | 6, _ => rfl | 7, _ => rfl⟩
  | 3, _ => exact ⟨rfl, rfl, rfl, rfl, fun j hj hn => by match j, hj with | 0, _ => rfl | 1, _ => rfl | 2, _ => rfl | 3, _ => exact absurd rfl hn | 4, _ => rfl | 5, _ => rfl | 6, _ => rfl | 7, _ => rfl⟩
  | 4, _ => exact ⟨rfl, rfl, rfl, rfl, fun j hj hn => by match j, hj with | 0, _ => rfl | 1, _ => rfl | 2, _ => rfl | 3, _ => rfl | 4, _ => exact absurd rfl hn | 5, _ => rfl | 6, _ => rfl | 7, _ => rfl⟩
  | 5, _ => exact ⟨rfl, rfl, rfl, rfl, fun j hj hn => by match j, hj with | 0, _ => rfl | 1, _ => rfl | 2, _ => rfl | 3, _ => rfl | 4, _ => rfl | 5, _ => exact absurd rfl hn | 6, _ => rfl | 7, _ => rfl⟩
  | 6, _ => exact ⟨rfl, rfl, rfl, rfl, fun j hj hn => by match j, hj with | 0, _ => rfl | 1, _ => rfl | 2, _ => rfl | 3, _ => rfl | 4, _ => rfl | 5, _ => rfl | 6, _ => exact absurd rfl hn | 7, _ => rfl⟩
  | 7, _ => exact ⟨rfl, rfl, rfl, rfl, fun j hj hn => by match j, hj with | 0, _ => rfl | 1, _ => rfl | 2, _ => rfl | 3, _ => rfl | 4, _ => rfl | 5, _ => rfl | 6, _ => rfl | 7, _ => exact absurd rfl hn⟩
theorem slc_put (id : Int) (v : Value) (i : Nat) (hi : hm id = i) (h : i < 8) : ((((slc none).setIfInBounds (i * 4) (.bool true)).setIfInBounds (i * 4 + 1) (.int .i64 3)).setIfInBounds (i * 4 + 2) (.int .u64 id)).setIfInBounds (i * 4 + 3) v = slc (some (id, v)) := by
  unfold slc
  simp only
  rw [hi]
  match i, h with
  | 0, _ => rfl
  | 1, _ => rfl
  | 2, _ => rfl
  | 3, _ => rfl
  | 4, _ => rfl
  | 5, _ => rfl
  | 6, _ => rfl
  | 7, _ => rfl
theorem slc_del (id : Int) (v : Value) (i : Nat) (hi : hm id = i) (h : i < 8) : ((((slc (some (id, v))).setIfInBounds (i * 4) (.bool false)).setIfInBounds (i * 4 + 1) (.int .i64 0)).setIfInBounds (i * 4 + 2) (.int .u64 0)).setIfInBounds (i * 4 + 3) (.pointer none) = slc none := by
  unfold slc
  simp only
  rw [hi]
  match i, h with
  | 0, _ => rfl
  | 1, _ => rfl
  | 2, _ => rfl
  | 3, _ => rfl
  | 4, _ => rfl
  | 5, _ => rfl
  | 6, _ => rfl
  | 7, _ => rfl
theorem slc_cells (on : Option (Int × Value)) (j : Nat) (h : j < 32) : ∃ u, (slc on)[j]? = some u := by
  have hs : (slc on).size = 32 := by
    cases on with
    | none => rfl
    | some p =>
      obtain ⟨id, v⟩ := p
      have h := (hm_int id).2
      unfold slc
      simp only
      generalize hm id = i at *
      match i, h with
      | 0, _ => rfl
      | 1, _ => rfl
      | 2, _ => rfl
      | 3, _ => rfl
      | 4, _ => rfl
      | 5, _ => rfl
      | 6, _ => rfl
      | 7, _ => rfl
  exact ⟨_, Array.getElem?_eq_getElem (by omega)⟩
/-- the table at block t, its slots at block s -/
structure Tb (t s : Nat) (on : Option (Int × Value)) (w : World) : Prop where
  ob : Ob w t #[.int .i64 100, .int .i64 (if on.isSome then 1 else 0), .slice (some ⟨s, 0, none⟩) 8 8] TTb
  sl : Ob w s (slc on) TSlot
theorem Tb.ne {t s : Nat} {on : Option (Int × Value)} {w : World} (h : Tb t s on w) : t ≠ s := fun e => by
  have h1 : w.heap[t]? = _ := h.ob
  have h2 : w.heap[s]? = _ := h.sl
  rw [e, h2] at h1
  injection h1 with h1
  injection h1 with _ h1
  exact absurd h1 (by decide)
theorem Tb.kept {t s : Nat} {on : Option (Int × Value)} {w w' : World} {M : Nat → Prop} (h : Tb t s on w) (hk : Kept M w w') (ht : ¬ M t) (hs : ¬ M s) : Tb t s on w' := ⟨h.ob.kept hk ht, h.sl.kept hk hs⟩
theorem Tb.keptF {t s : Nat} {on : Option (Int × Value)} {w w' : World} (h : Tb t s on w) (hk : Kept (fun _ => False) w w') : Tb t s on w' := h.kept hk id id
theorem home_any (t s : Nat) (on : Option (Int × Value)) (id : Int) (w : World) (h : Tb t s on w) : Calls Tryz.prog 162 #[.pointer (some ⟨t, 0, none⟩), .agg #[.int .i64 3, .int .u64 id]] w fun e w' => e = .returned (.int .i64 (hm id)) ∧ Kept (fun _ => False) w w' := by
  obtain ⟨lb, cb, fb⟩ := h.ob.blk
  have c2 : w.cell? ⟨t, 2, none⟩ = some (.slice (some ⟨s, 0, none⟩) 8 8) := cb 2
  clear cb
  have hx := hm_int id
  go_enter Tryz.func162, Tryz.ntmps162
  go_wp2_with fail
  go_ret
  refine ⟨?_, (Kept.refl _ _).alloc _⟩
  show Ending.returned (.int .i64 _) = _
  rw [hx.1]
set_option maxRecDepth 100000 in
theorem find_any (t s : Nat) (on : Option (Int × Value)) (id : Int) (w : World) (h : Tb t s on w) (ho : ∀ i v, on = some (i, v) → i = id) : Calls Tryz.prog 109 #[.pointer (some ⟨t, 0, none⟩), .agg #[.int .i64 3, .int .u64 id]] w fun e w' => e = .returned (.int .i64 (hm id)) ∧ Kept (fun _ => False) w w' := by
  have HT := Lib.hid h
  obtain ⟨_, h8⟩ := hm_int id
  clear h
  go_enter Tryz.func109, Tryz.ntmps109
  go_wp2_with fail
  refine (home_any t s on id _ (HT.out.keptF ((Kept.refl _ _).alloc _))).mono ?_
  rintro e w1 ⟨rfl, hk1⟩
  go_wp2_with fail
  have HT1 := Lib.hid ((HT.out.keptF ((Kept.refl _ _).alloc (.cells #[.int .i64 3, .int .u64 id] TKey))).keptF hk1)
  have HK1 := Lib.hid (((Kept.refl (fun _ => False) w).alloc (.cells #[.int .i64 3, .int .u64 id] TKey)).trans hk1)
  have hb := (Ob.new w #[.int .i64 3, .int .u64 id] TKey).kept hk1 fun h => h
  obtain ⟨lbb, cbb, fbb⟩ := hb.blk
  have b0 : w1.cell? ⟨w.heap.size, 0, none⟩ = some (.int .i64 3) := cbb 0
  have b1 : w1.cell? ⟨w.heap.size, 1, none⟩ = some (.int .u64 id) := cbb 1
  clear hk1 hb cbb
  obtain ⟨lb, cb, fb⟩ := HT1.out.ob.blk
  have c2 : w1.cell? ⟨t, 2, none⟩ = some (.slice (some ⟨s, 0, none⟩) 8 8) := cb 2
  clear cb
  obtain ⟨ls, cs, fs⟩ := HT1.out.sl.blk
  obtain ⟨i, HI⟩ : ∃ i, Hid (hm id = i) := ⟨_, Lib.hid rfl⟩
  rw [HI.out] at h8 ⊢
  refine wp_loop_rounds 1 ?_
  rw [rounds_succ]
  cases on with
  | none =>
    have u0 : w1.cell? ⟨s, i * 4, none⟩ = some (.bool false) := (cs _).trans (slc_none i h8)
    clear cs
    go_wp2_with fail
    refine wp_region_quiet_lit (by kernel_rfl) (by kernel_rfl) ?_
    try simp only [List.append]
    repeat (first | go_big_quiet_step (fail) | quiet_step (fail))
    refine wpQuiet_nil ?_
    intro W hW
    obtain ⟨q, rfl⟩ := hW
    go_wp2_with fail
    go_ret
    exact ⟨by rw [HI.out]; rfl, HK1.out.trans (Kept.dn _ _ _)⟩
  | some p =>
    obtain ⟨j, v⟩ := p
    obtain rfl := ho j v rfl
    obtain ⟨s0, s1, s2, _, _⟩ := slc_some j v
    rw [HI.out] at s0 s1 s2
    have u0 : w1.cell? ⟨s, i * 4, none⟩ = some (.bool true) := (cs _).trans s0
    have u1 : w1.cell? ⟨s, i * 4 + 1, none⟩ = some (.int .i64 3) := (cs _).trans s1
    have u2 : w1.cell? ⟨s, i * 4 + 2, none⟩ = some (.int .u64 j) := (cs _).trans s2
    clear cs s0 s1 s2
    go_wp2_with fail
    refine wp_region_quiet_lit (by kernel_rfl) (by kernel_rfl) ?_
    try simp only [List.append]
    repeat (first | go_big_quiet_step (fail) | quiet_step (fail))
    refine wpQuiet_nil ?_
    intro W hW
    obtain ⟨q, rfl⟩ := hW
    go_wp2_with fail
    go_ret
    exact ⟨by rw [HI.out]; rfl, HK1.out.trans (Kept.dn _ _ _)⟩
set_option maxRecDepth 100000 in
theorem has_any (t s : Nat) (on : Option (Int × Value)) (id : Int) (w : World) (h : Tb t s on w) (ho : ∀ i v, on = some (i, v) → i = id) : Calls Tryz.prog 106 #[.pointer (some ⟨t, 0, none⟩), .agg #[.int .i64 3, .int .u64 id]] w fun e w' => e = .returned (.tuple #[.int .i64 (hm id), .bool on.isSome]) ∧ Kept (fun _ => False) w w' := by
  have HT := Lib.hid h
  obtain ⟨_, h8⟩ := hm_int id
  obtain ⟨lb, cb, fb⟩ := h.ob.blk
  have c2 : w.cell? ⟨t, 2, none⟩ = some (.slice (some ⟨s, 0, none⟩) 8 8) := cb 2
  clear h cb
  go_enter Tryz.func106, Tryz.ntmps106
  go_wp2_with fail
  refine (find_any t s on id _ (HT.out.keptF ((Kept.refl _ _).alloc _)) ho).mono ?_
  rintro e w1 ⟨rfl, hk1⟩
  have HT1 := Lib.hid ((HT.out.keptF ((Kept.refl _ _).alloc (.cells #[.int .i64 3, .int .u64 id] TKey))).keptF hk1)
  have HK1 := Lib.hid (((Kept.refl (fun _ => False) w).alloc (.cells #[.int .i64 3, .int .u64 id] TKey)).trans hk1)
  clear hk1 c2 lb fb
  obtain ⟨lb, cb, fb⟩ := HT1.out.ob.blk
  have c2 : w1.cell? ⟨t, 2, none⟩ = some (.slice (some ⟨s, 0, none⟩) 8 8) := cb 2
  clear cb
  obtain ⟨ls, cs, fs⟩ := HT1.out.sl.blk
  obtain ⟨u, u0, hu⟩ : ∃ u, w1.cell? ⟨s, hm id * 4, none⟩ = some (.bool u) ∧ u = on.isSome := by
    cases on with
    | none => exact ⟨_, (cs _).trans (slc_none _ h8), rfl⟩
    | some p =>
      obtain ⟨j, v⟩ := p
      obtain rfl := ho j v rfl
      exact ⟨_, (cs _).trans (slc_some j v).1, rfl⟩
  subst hu
  clear cs
  go_wp2_with fail
  refine wp_region_quiet_lit (by kernel_rfl) (by kernel_rfl) ?_
  try simp only [List.append]
  repeat (first | go_big_quiet_step (fail) | quiet_step (fail))
  refine wpQuiet_nil ?_
  intro W hW
  obtain ⟨q, rfl⟩ := hW
  go_wp2_with fail
  go_ret2
  exact ⟨rfl, HK1.out.trans (Kept.dn _ _ _)⟩
theorem get_none (t s : Nat) (id : Int) (w : World) (h : Tb t s none w) : Calls Tryz.prog 57 #[.pointer (some ⟨t, 0, none⟩), .agg #[.int .i64 3, .int .u64 id]] w fun e w' => e = .returned (.tuple #[.pointer none, .bool false]) ∧ Kept (fun _ => False) w w' := by
  have HT := Lib.hid h
  clear h
  go_enter Tryz.func57, Tryz.ntmps57
  go_wp2_with fail
  refine (has_any t s none id _ (HT.out.keptF ((Kept.refl _ _).alloc _)) (fun i v e => by cases e)).mono ?_
  rintro e w1 ⟨rfl, hk1⟩
  go_wp2_with fail
  go_ret2
  exact ⟨rfl, ((Kept.refl (fun _ => False) w).alloc _).trans hk1⟩
theorem tlen_any (t s : Nat) (on : Option (Int × Value)) (w : World) (h : Tb t s on w) : Calls Tryz.prog 59 #[.pointer (some ⟨t, 0, none⟩)] w fun e w' => e = .returned (.int .i64 (if on.isSome then 1 else 0)) ∧ w = w' := by
  obtain ⟨lb, cb, fb⟩ := h.ob.blk
  have c1 := cb 1
  generalize hz : (if on.isSome then (1 : Int) else 0) = z at *
  have c1 : w.cell? ⟨t, 1, none⟩ = some (.int .i64 z) := c1
  clear cb
  go_enter Tryz.func59, Tryz.ntmps59
  go_wp2_with fail
  go_ret
  exact ⟨rfl, rfl⟩
set_option maxRecDepth 100000 in
theorem put_none (t s : Nat) (id : Int) (v : Addr) (w : World) (h : Tb t s none w) : Calls Tryz.prog 63 #[.pointer (some ⟨t, 0, none⟩), .agg #[.int .i64 3, .int .u64 id], .pointer (some v)] w fun e w' => e = .returned (.int .i64 0) ∧ Tb t s (some (id, .pointer (some v))) w' ∧ Kept (fun x => x = t ∨ x = s) w w' := by
  have HT := Lib.hid h
  have HN := Lib.hid h.ne
  obtain ⟨_, h8⟩ := hm_int id
  clear h
  go_enter Tryz.func63, Tryz.ntmps63
  go_wp2_with fail
  refine (has_any t s none id _ (HT.out.keptF ((Kept.refl _ _).alloc _)) (fun i v e => by cases e)).mono ?_
  rintro e w1 ⟨rfl, hk1⟩
  have HT1 := Lib.hid ((HT.out.keptF ((Kept.refl _ _).alloc (.cells #[.int .i64 3, .int .u64 id] TKey))).keptF hk1)
  have HK1 := Lib.hid (((Kept.refl (fun _ => False) w).alloc (.cells #[.int .i64 3, .int .u64 id] TKey)).trans hk1)
  have HB1 := Lib.hid ((Ob.new w #[.int .i64 3, .int .u64 id] TKey).kept hk1 fun h => h)
  obtain ⟨lb, cb, fb⟩ := HT1.out.ob.blk
  have c0 : w1.cell? ⟨t, 0, none⟩ = some (.int .i64 100) := cb 0
  have c1 : w1.cell? ⟨t, 1, none⟩ = some (.int .i64 0) := cb 1
  have c2 : w1.cell? ⟨t, 2, none⟩ = some (.slice (some ⟨s, 0, none⟩) 8 8) := cb 2
  clear hk1 cb
  go_wp2_with fail
  refine wp_region_quiet_lit (by kernel_rfl) (by kernel_rfl) ?_
  try simp only [List.append]
  repeat (first | go_big_quiet_step (fail) | quiet_step (fail))
  refine wpQuiet_nil ?_
  intro W hW
  obtain ⟨q, rfl⟩ := hW
  go_wp2_with fail
  refine wp_region_quiet_lit (by kernel_rfl) (by kernel_rfl) ?_
  try simp only [List.append]
  repeat (first | go_big_quiet_step (fail) | quiet_step (fail))
  refine wpQuiet_nil ?_
  intro W hW
  obtain ⟨q2, rfl⟩ := hW
  go_wp2_with fail
  have HT2 := Lib.hid ((HT1.out.keptF (Kept.dn _ _ q)).keptF (Kept.dn _ _ q2))
  have HK2 := Lib.hid ((HK1.out.trans (Kept.dn _ _ q)).trans (Kept.dn _ _ q2))
  have HB2 := Lib.hid (((HB1.out.dn (n := q)).dn (n := q2)))
  generalize (w1.drewN q).drewN q2 = w2 at *
  clear c0 c1 c2 lb fb
  obtain ⟨i, HI⟩ : ∃ i, Hid (hm id = i) := ⟨_, Lib.hid rfl⟩
  rw [HI.out] at h8 ⊢
  obtain ⟨lb, cb, fb⟩ := HT2.out.ob.blk
  have c2 : w2.cell? ⟨t, 2, none⟩ = some (.slice (some ⟨s, 0, none⟩) 8 8) := cb 2
  obtain ⟨lbb, cbb, fbb⟩ := HB2.out.blk
  have b0 : w2.cell? ⟨w.heap.size, 0, none⟩ = some (.int .i64 3) := cbb 0
  have b1 : w2.cell? ⟨w.heap.size, 1, none⟩ = some (.int .u64 id) := cbb 1
  have nt : ¬ Only s t := HN.out
  have nb : ¬ Only s w.heap.size := fun hh => by
    have : w.heap.size = s := hh
    have := HT.out.sl.lt
    omega
  clear cb cbb
  refine wp_run (M := (Only s)) (stages [([true, true, true, true, true, true, false, true, true, true, false, false], 6), ([false, false, false, false, false, false, false, false, false, false, true, false], 11)] [false, false, false, false, false, false, false, false, false, false, false, false]) (by kernel_rfl) (by kernel_rfl) ?_
  refine run_stage rfl ?_
  simp only [pickAt]
  repeat (go_big_quiet_step (fail))
  refine wpQuiet_nil ?_
  refine run_want rfl ?_
  intro A hA
  go_simp
  refine (find_any t s none id _ (HT2.out.keptF (Kept.drew _ _)) (fun i v e => by cases e)).mono ?_
  rintro e w3 ⟨rfl, hk3⟩
  have HT3 := Lib.hid ((HT2.out.keptF (Kept.drew _ _)).keptF hk3)
  have HB3 := Lib.hid (HB2.out.drew.kept hk3 fun h => h)
  have HK3 := Lib.hid ((HK2.out.trans (Kept.drew _ _)).trans hk3)
  refine hA _ _ ((hk3.mono (fun _ _ h => h.elim))) ?_
  try simp only [Act.put, List.setIfInBounds_toArray, List.set_cons_zero, List.set_cons_succ]
  clear A hA
  rw [HI.out]
  clear hk3 c2 b0 b1 lb fb lbb fbb
  obtain ⟨lb, cb, fb⟩ := HT3.out.ob.blk
  obtain ⟨lbb, cbb, fbb⟩ := HB3.out.blk
  have b0 : w3.cell? ⟨w.heap.size, 0, none⟩ = some (.int .i64 3) := cbb 0
  have b1 : w3.cell? ⟨w.heap.size, 1, none⟩ = some (.int .u64 id) := cbb 1
  obtain ⟨ls, cs, fs⟩ := HT3.out.sl.blk
  obtain ⟨x0, u0⟩ := slc_cells none (i * 4) (by omega)
  obtain ⟨x1, u1⟩ := slc_cells none (i * 4 + 1) (by omega)
  obtain ⟨x2, u2⟩ := slc_cells none (i * 4 + 2) (by omega)
  obtain ⟨x3, u3⟩ := slc_cells none (i * 4 + 3) (by omega)
  have u0 := (cs _).trans u0
  have u1 := (cs _).trans u1
  have u2 := (cs _).trans u2
  have u3 := (cs _).trans u3
  have c1 : w3.cell? ⟨t, 1, none⟩ = some (.int .i64 0) := cb 1
  clear cb cbb cs
  refine run_stage rfl ?_
  simp only [pickAt]
  repeat (go_big_quiet_step (fail))
  refine wpQuiet_nil ?_
  refine run_want rfl ?_
  intro A hA
  go_simp
  have HS4 := Lib.hid (Ob.cast ((((HT3.out.sl.set (i * 4) (.bool true)).set (i * 4 + 1) (.int .i64 3)).set (i * 4 + 2) (.int .u64 id)).set (i * 4 + 3) (.pointer (some v))) (slc_put id (.pointer (some v)) i HI.out h8))
  have HO4 := Lib.hid ((((HT3.out.ob.other ⟨s, i * 4, none⟩ (.bool true) HN.out).other ⟨s, i * 4 + 1, none⟩ (.int .i64 3) HN.out).other ⟨s, i * 4 + 2, none⟩ (.int .u64 id) HN.out).other ⟨s, i * 4 + 3, none⟩ (.pointer (some v)) HN.out)
  have HK4 : Hid (Kept (Only s) w3 ((((w3.setCell ⟨s, i * 4, none⟩ (.bool true)).setCell ⟨s, i * 4 + 1, none⟩ (.int .i64 3)).setCell ⟨s, i * 4 + 2, none⟩ (.int .u64 id)).setCell ⟨s, i * 4 + 3, none⟩ (.pointer (some v)))) := Lib.hid (Kept.refl _ _).setO.setO.setO.setO
  generalize (((w3.setCell ⟨s, i * 4, none⟩ (.bool true)).setCell ⟨s, i * 4 + 1, none⟩ (.int .i64 3)).setCell ⟨s, i * 4 + 2, none⟩ (.int .u64 id)).setCell ⟨s, i * 4 + 3, none⟩ (.pointer (some v)) = w4 at *
  refine hA _ _ (HK4.out) ?_
  try simp only [Act.put, List.setIfInBounds_toArray, List.set_cons_zero, List.set_cons_succ]
  clear A hA
  refine run_last ?_
  simp only [pickAt]
  repeat (go_big_quiet_step (fail))
  refine wpQuiet_nil ?_
  clear u0 u1 u2 u3 c1 b0 b1 lb fb lbb fbb ls fs
  obtain ⟨lb, cb, fb⟩ := HO4.out.blk
  have c1 : w4.cell? ⟨t, 1, none⟩ = some (.int .i64 0) := cb 1
  clear cb
  go_wp2_with fail
  go_ret
  refine ⟨rfl, ⟨Ob.cast (HO4.out.set 1 (.int .i64 1)) rfl, HS4.out.other ⟨t, 1, none⟩ (.int .i64 1) (fun e => HN.out e.symm)⟩, ?_⟩
  exact (((HK3.out.mono fun _ _ h => h.elim).trans (HK4.out.mono fun x _ h => .inr h)).set ⟨t, 1, none⟩ _ fun _ => .inl rfl)
end Go.Proofs.YtgfkgbampoocdaaGreatDoor
