/- A wheel (chapter 2): the contracts of its calls. -/
import Derived.Test.YtlibnjhoggfhfaaWheelA
import Derived.Test.YtlibnjhoggfhfaaStruct
import Derived.Test.YtlibnjhoggfhfaaTail
namespace Go.Proofs.Ytlibnjhoggfhfaa
open Go.RowKit

def Mad (V : Value) (n : Nat) : Nat → Prop := fun x => V.ownBlock = some x ∨ n ≤ x
theorem not_mad {V : Value} {n b : Nat} (h : V.ownBlock ≠ some b) (hb : b < n) : ¬ Mad V n b := fun hh => by rcases hh with hh | hh; exact h hh; omega
theorem new_dui (most : Int) (w : World) (h : 1 ≤ most ∧ most ≤ 100000) : Calls Try.prog 9 #[.int .i64 most] w fun e w' => e = .returned (.tuple #[.pointer (some ⟨w.heap.size, 0, none⟩), .int .i64 0]) ∧ Wh 65 33 w.heap.size w.heap.size (.slice none 0 0) ⟨most, 0, 0, []⟩ w' ∧ Below w.heap.size w w' := by
  obtain ⟨h1, h2⟩ := h
  go_enter Try.func9, Try.ntmps9
  go_wp2_with fail
  refine done (.tuple #[.pointer (some ⟨w.heap.size, 0, none⟩), .int .i64 0]) rfl (by simp [results, Try.results9, go_sem]) ⟨rfl, ⟨Ob.new _ _ _, World.ownsRow_nil _ _ _ _, by simp [Value.ownBlock], Nat.le_refl _⟩, (Below.refl _ _).alloc (Nat.le_refl _) _⟩
theorem newno_dui (most : Int) (w : World) (h : ¬ (1 ≤ most ∧ most ≤ 100000)) : Calls Try.prog 9 #[.int .i64 most] w fun e w' => e = .returned (.tuple #[.pointer none, .int .i64 1]) ∧ w = w' := by
  rcases (by omega : most < 1 ∨ (1 ≤ most ∧ 100000 < most)) with h1 | ⟨h1, h2⟩
  all_goals
    clear h
    go_enter Try.func9, Try.ntmps9
    go_wp2_with fail
    go_ret2
    exact ⟨rfl, rfl⟩
theorem len_dui (b B0 : Nat) (V : Value) (s : Wl) (w : World) (h : Wh 65 33 b B0 V s w) : Calls Try.prog 12 #[.pointer (some ⟨b, 0, none⟩)] w fun e w' => e = .returned (.int .i64 s.l.length) ∧ w = w' := by
  obtain ⟨lb, cb, fb⟩ := h.ob.blk
  obtain ⟨a, c, hv, _, _⟩ := (Rd.of_own h.own).form
  subst hv
  have c3 := cb 3
  clear cb h
  go_enter Try.func12, Try.ntmps12
  go_wp2_with fail
  go_ret
  exact ⟨rfl, rfl⟩
set_option maxRecDepth 100000 in
set_option maxHeartbeats 4000000 in
theorem add_dui (b B0 : Nat) (V : Value) (s : Wl) (at' : Int) (z : Int) (w : World) (h : Wh 65 33 b B0 V s w) (ho : s.ok) (a0 : 0 ≤ at') (a1 : at' ≤ 1125899906842624) (hr : (s.l.length : Int) < s.most) (hl : s.last < 1000000000) :
    Calls Try.prog 10 #[.pointer (some ⟨b, 0, none⟩), .int .i64 at', .int .i64 z] w fun e w' => e = .returned (.tuple #[.int .i64 (s.last + 1), .int .i64 0]) ∧ WhPost 65 33 b B0 V (s.plus at' (.int .i64 z)) w w' := by
  have HW := Lib.hid h
  have HO := Lib.hid ho
  have t0 := ho.t0
  have a2 := ho.a1
  have n0 := ho.n0
  have n1 := ho.n1
  clear h ho
  obtain ⟨a, c, hv, _, _⟩ := (Rd.of_own HW.out.own).form
  have HV := Lib.hid hv
  obtain ⟨lb, cb, fb⟩ := HW.out.ob.blk
  have c0 := cb 0
  have c2 := cb 2
  have c3 := cb 3
  rw [hv] at c0 c2 c3
  clear cb hv
  have hd : decide (s.most ≤ (s.l.length : Int)) = false := decide_eq_false (by omega)
  go_enter Try.func10, Try.ntmps10
  go_wp2_with fail
  refine wp_region_quiet_lit (by kernel_rfl) (by kernel_rfl) ?_
  try simp only [List.append]
  repeat (first | go_big_quiet_step (fail) | quiet_step (fail))
  refine wpQuiet_nil ?_
  intro W hW
  have hkW : Kept (fun _ => False) w W := by obtain ⟨n9, rfl⟩ := hW; exact Kept.dn _ _ _
  have HW1 := Lib.hid (HW.out.keptF hkW)
  have HK1 := Lib.hid (hkW.mono (N := WM b V) fun _ _ h => h.elim)
  clear hkW hW c0 c2 c3 lb fb
  obtain ⟨lb, cb, fb⟩ := HW1.out.ob.blk
  have c2 : W.cell? ⟨b, 2, none⟩ = some (.int .i64 s.last) := cb 2
  clear cb
  go_wp2_with fail
  have ob2 := Lib.hid (Ob.cast (HW1.out.ob.set 2 (.int .i64 (s.last + 1))) (show _ = #[.int .i64 s.most, .int .i64 s.now, .int .i64 (s.last + 1), V] from rfl))
  have HK2 := Lib.hid (HK1.out.set ⟨b, 2, none⟩ (.int .i64 (s.last + 1)) (fun _ => .inl rfl))
  have ow2 := Lib.hid (own_kept HW1.out.own ((Kept.refl (Only b) W).setO (i := 2) (v := .int .i64 (s.last + 1))) (fun y hy hh => HW.out.ne (by rw [hy, show y = b from hh])))
  generalize W.setCell ⟨b, 2, none⟩ (.int .i64 (s.last + 1)) = W2 at *
  clear c2 lb fb
  obtain ⟨lb, cb, fb⟩ := ob2.out.blk
  have c1 : W2.cell? ⟨b, 1, none⟩ = some (.int .i64 s.now) := cb 1
  have c2 : W2.cell? ⟨b, 2, none⟩ = some (.int .i64 (s.last + 1)) := cb 2
  have c3 : W2.cell? ⟨b, 3, none⟩ = some (.slice a s.l.length c) := by rw [cb 3, HV.out]; rfl
  clear cb
  have nb := not_since lb
  refine wp_heads (M := (Since W2.heap.size)) 13 (by kernel_rfl) (by kernel_rfl) ?_
  refine hd_quiet [true, true, true, true, true, true, true, true, true, true, true, true, false, false] (by kernel_rfl) ?_
  simp only [pickAt]
  repeat (go_big_quiet_step (fail))
  refine wpQuiet_nil ?_
  refine hd_act 12 rfl (by kernel_rfl) ?_
  refine run_want rfl ?_
  intro A hA
  go_simp
  refine hA _ _ (((Kept.refl _ _).alloc _)) ?_
  try simp only [Act.put, List.setIfInBounds_toArray, List.set_cons_zero, List.set_cons_succ]
  clear A hA
  refine hd_quiet [false, false, false, false, false, false, false, false, false, false, false, false, false, false] (by kernel_rfl) ?_
  simp only [pickAt]
  repeat (go_big_quiet_step (fail))
  refine wpQuiet_nil ?_
  refine hd_tail rfl (by kernel_rfl) ?_
  simp only [List.drop_succ_cons, List.drop_zero]
  go_wp2_with fail
  have HZ3 := Lib.hid ((Ob.new W2 #[.int .i64 (max at' s.now), .int .i64 (s.last + 1), .int .i64 z] 33).drew)
  have ob3 := Lib.hid ((ob2.out.alloc (.cells #[.int .i64 (max at' s.now), .int .i64 (s.last + 1), .int .i64 z] 33)).drew)
  have HK3 := Lib.hid ((HK2.out.alloc (.cells #[.int .i64 (max at' s.now), .int .i64 (s.last + 1), .int .i64 z] 33)).drewR)
  have ow3 := Lib.hid (own_kept ow2.out (((Kept.refl (fun _ => False) W2).alloc (.cells #[.int .i64 (max at' s.now), .int .i64 (s.last + 1), .int .i64 z] 33)).drewR) (fun _ _ hh => hh))
  have hZw : w.heap.size ≤ W2.heap.size := HK2.out.size
  have hbZ : b ≠ W2.heap.size := by have := ob2.out.lt; omega
  have hVZ : V.ownBlock ≠ some W2.heap.size := fun hh => by have := (HW.out.lt _ (.inr hh)).2; omega
  refine NoPanic.normal ?_
  generalize (W2.alloc (.cells #[.int .i64 (max at' s.now), .int .i64 (s.last + 1), .int .i64 z] 33)).drew = W3 at *
  generalize W2.heap.size = Z at *
  clear c1 c2 c3 lb fb
  obtain ⟨lb, cb, fb⟩ := ob3.out.blk
  have c3 : W3.cell? ⟨b, 3, none⟩ = some (.slice a s.l.length c) := by rw [cb 3, HV.out]; rfl
  obtain ⟨lz, cz, fz⟩ := HZ3.out.blk
  clear cb
  go_wp2_with fail
  refine wp_run (M := (fun _ => False)) (stages [([true, true, true, true, true, false, false, false, false, false, false], 5)] [false, false, false, false, false, false, true, true, true, true, true]) (by kernel_rfl) (by kernel_rfl) ?_
  refine run_stage rfl ?_
  simp only [pickAt]
  repeat (go_big_quiet_step (fail))
  refine wpQuiet_nil ?_
  refine run_want rfl ?_
  intro A hA
  go_simp
  have hrd := Rd.of_own ow3.out
  rw [HV.out] at hrd
  refine (search_dui 25 #[] ⟨max at' s.now, s.last + 1, .int .i64 z⟩ (fun y => y.cmp ⟨max at' s.now, s.last + 1, .int .i64 z⟩) s.l _ _ (enters_of Try.func25 (by kernel_rfl) rfl) (hrd.keptF (Kept.drew _ _)) (by omega) (mono_cmp HO.out.up ⟨max at' s.now, s.last + 1, .int .i64 z⟩) (fun W x _ => order_dui x ⟨max at' s.now, s.last + 1, .int .i64 z⟩ W)).mono ?_
  rintro e w4 ⟨hb4, i, f, rfl, hi, h1, h2, _⟩
  have HPOS := Lib.hid (show s.pos ⟨max at' s.now, s.last + 1, .int .i64 z⟩ = i from countP_split _ hi (fun y hy => decide_eq_true (h1 y hy)) (fun y hy => decide_eq_false (Int.not_lt.2 (h2 y hy))))
  have HI := Lib.hid hi
  have hk4 := Kept.of_below (M := fun _ => False) hb4
  have ob4 := Lib.hid (ob3.out.drew.kept hk4 id)
  have HZ4 := Lib.hid (HZ3.out.drew.kept hk4 id)
  have ow4 := Lib.hid (own_kept ow3.out ((Kept.drew (fun _ => False) W3).trans hk4) (fun _ _ hh => hh))
  have HK4 := Lib.hid (HK3.out.drewR.trans (hk4.mono (N := WM b V) fun _ _ h => h.elim))
  have hs4 := hb4.size
  refine hA _ _ (hk4) ?_
  try simp only [Act.put, List.setIfInBounds_toArray, List.set_cons_zero, List.set_cons_succ]
  clear A hA
  clear hb4 hk4 hrd h1 h2 hi c3 lb fb lz cz fz
  refine run_last ?_
  simp only [pickAt]
  repeat (go_big_quiet_step (fail))
  refine wpQuiet_nil ?_
  obtain ⟨lb, cb, fb⟩ := ob4.out.blk
  have c3 : w4.cell? ⟨b, 3, none⟩ = some (.slice a s.l.length c) := by rw [cb 3, HV.out]; rfl
  obtain ⟨lz, cz, fz⟩ := HZ4.out.blk
  clear cb
  go_wp2_with fail
  have nb := not_mad HW.out.ne lb
  have nz := not_mad hVZ lz
  have h1r := one_du HO.out.one
  refine wp_heads (M := (Mad V w4.heap.size)) 11 (by kernel_rfl) (by kernel_rfl) ?_
  refine hd_quiet [true, true, true, true, true, true, true, false, false, false, false, false] (by kernel_rfl) ?_
  simp only [pickAt]
  repeat (go_big_quiet_step (fail))
  refine wpQuiet_nil ?_
  refine hd_act 7 rfl (by kernel_rfl) ?_
  refine run_want rfl ?_
  intro A hA
  go_simp
  have hown := own_kept ow4.out (((Kept.drew (fun _ => False) w4)).alloc (.cells #[.int .i64 (max at' s.now), .int .i64 (s.last + 1), .int .i64 z] 33)) (fun _ _ hh => hh)
  rw [HV.out] at hown
  have hVw : ∀ x, (Value.slice a s.l.length c).ownBlock = some x → x < w4.heap.size := by rw [← HV.out]; exact fun x hx => (own_lt ow4.out x hx).2
  refine hA _ _ (((Kept.refl _ _).alloc _)) ?_
  try simp only [Act.put, List.setIfInBounds_toArray, List.set_cons_zero, List.set_cons_succ]
  clear A hA
  refine hd_quiet [false, false, false, false, false, false, false, false, false, false, false, false] (by kernel_rfl) ?_
  simp only [pickAt]
  repeat (go_big_quiet_step (fail))
  refine wpQuiet_nil ?_
  refine hd_act 8 rfl (by kernel_rfl) ?_
  refine run_want rfl ?_
  intro A hA
  go_simp
  refine (insert_dui B0 (.slice a s.l.length c) s.l.length i w4.heap.size 1 1 _ [.int .i64 (max at' s.now), .int .i64 (s.last + 1), .int .i64 z] _ hown HI.out (by decide) rfl (Rw.new w4.drew #[.int .i64 (max at' s.now), .int .i64 (s.last + 1), .int .i64 z] 33) (by decide) (by decide)
    (fun hh => by have := hVw _ hh; omega) h1r (fun u hu => by simp at hu; rcases hu with rfl | rfl | rfl <;> rfl) (by omega) (by have := HW.out.bb; simp; omega)).mono ?_
  rintro e w5 ⟨V5, rfl, ho5, hk5, hb5⟩
  obtain ⟨a5, c5, rfl, _, _⟩ := (Rd.of_own ho5).form
  have hk5' : Kept (Mad V w4.heap.size) (w4.drew.alloc (.cells #[.int .i64 (max at' s.now), .int .i64 (s.last + 1), .int .i64 z] 33)) w5 := hk5.mono (fun y _ hy => .inl (by rw [HV.out]; exact hy))
  have ob5 := Lib.hid ((ob4.out.drew.alloc (.cells #[.int .i64 (max at' s.now), .int .i64 (s.last + 1), .int .i64 z] 33)).kept hk5 (fun hh => HW.out.ne (by rw [HV.out]; exact hh)))
  have HK5 := Lib.hid ((HK4.out.drewR.alloc (.cells #[.int .i64 (max at' s.now), .int .i64 (s.last + 1), .int .i64 z] 33)).trans (hk5.mono (N := WM b V) (fun x _ hx => .inr (by rw [HV.out]; exact hx))))
  have hws : w.heap.size ≤ w4.heap.size := HK4.out.size
  have hpl : (s.plus at' (.int .i64 z)).l = s.l.take i ++ [⟨max at' s.now, s.last + 1, .int .i64 z⟩] ++ s.l.drop i := by unfold Wl.plus; rw [HPOS.out]
  have HP := Lib.hid (wh_store (s' := (s.plus at' (.int .i64 z))) HW.out HK5.out ob5.out ho5 (by
    rcases hb5 with h | h
    · exact .inl (by rw [h, HV.out])
    · exact .inr (fun x hx => by rw [h] at hx; injection hx with hx; rw [← hx, World.size_alloc]; exact Nat.le_succ_of_le hws)) (by rw [hpl]; exact flat_ins s.l i ⟨max at' s.now, s.last + 1, .int .i64 z⟩) (by rw [hpl, insd_len HI.out]))
  have lb5 := Lib.hid (ob5.out.blk)
  have c25 : (w5.setCell ⟨b, 3, none⟩ (.slice a5 (s.l.length + 1) c5)).cell? ⟨b, 2, none⟩ = some (.int .i64 (s.last + 1)) := (ob5.out.set 3 _).blk.2.1 2
  refine hA _ _ (hk5') ?_
  try simp only [Act.put, List.setIfInBounds_toArray, List.set_cons_zero, List.set_cons_succ]
  clear A hA
  clear hk5 hk5' hb5 ho5 hown hVw hpl
  refine hd_quiet [false, false, false, false, false, false, false, false, false, true, true, false] (by kernel_rfl) ?_
  simp only [pickAt]
  repeat (go_big_quiet_step (fail))
  refine wpQuiet_nil ?_
  clear lb fb c3 nb nz
  obtain ⟨lb, cb, fb⟩ := lb5.out
  have c35 := cb 3
  clear cb
  refine hd_tail rfl (by kernel_rfl) ?_
  simp only [List.drop_succ_cons, List.drop_zero]
  go_wp2_with fail
  refine NoPanic.normal ?_
  go_wp2_with fail
  go_ret2
  exact ⟨rfl, HP.out⟩
theorem new_dus (most : Int) (w : World) (h : 1 ≤ most ∧ most ≤ 100000) : Calls Try.prog 20 #[.int .i64 most] w fun e w' => e = .returned (.tuple #[.pointer (some ⟨w.heap.size, 0, none⟩), .int .i64 0]) ∧ Wh 75 63 w.heap.size w.heap.size (.slice none 0 0) ⟨most, 0, 0, []⟩ w' ∧ Below w.heap.size w w' := by
  obtain ⟨h1, h2⟩ := h
  go_enter Try.func20, Try.ntmps20
  go_wp2_with fail
  refine done (.tuple #[.pointer (some ⟨w.heap.size, 0, none⟩), .int .i64 0]) rfl (by simp [results, Try.results20, go_sem]) ⟨rfl, ⟨Ob.new _ _ _, World.ownsRow_nil _ _ _ _, by simp [Value.ownBlock], Nat.le_refl _⟩, (Below.refl _ _).alloc (Nat.le_refl _) _⟩
theorem newno_dus (most : Int) (w : World) (h : ¬ (1 ≤ most ∧ most ≤ 100000)) : Calls Try.prog 20 #[.int .i64 most] w fun e w' => e = .returned (.tuple #[.pointer none, .int .i64 1]) ∧ w = w' := by
  rcases (by omega : most < 1 ∨ (1 ≤ most ∧ 100000 < most)) with h1 | ⟨h1, h2⟩
  all_goals
    clear h
    go_enter Try.func20, Try.ntmps20
    go_wp2_with fail
    go_ret2
    exact ⟨rfl, rfl⟩
theorem len_dus (b B0 : Nat) (V : Value) (s : Wl) (w : World) (h : Wh 75 63 b B0 V s w) : Calls Try.prog 23 #[.pointer (some ⟨b, 0, none⟩)] w fun e w' => e = .returned (.int .i64 s.l.length) ∧ w = w' := by
  obtain ⟨lb, cb, fb⟩ := h.ob.blk
  obtain ⟨a, c, hv, _, _⟩ := (Rd.of_own h.own).form
  subst hv
  have c3 := cb 3
  clear cb h
  go_enter Try.func23, Try.ntmps23
  go_wp2_with fail
  go_ret
  exact ⟨rfl, rfl⟩
set_option maxRecDepth 100000 in
set_option maxHeartbeats 4000000 in
theorem add_dus (b B0 : Nat) (V : Value) (s : Wl) (at' : Int) (z : ByteArray) (w : World) (h : Wh 75 63 b B0 V s w) (ho : s.ok) (a0 : 0 ≤ at') (a1 : at' ≤ 1125899906842624) (hr : (s.l.length : Int) < s.most) (hl : s.last < 1000000000) :
    Calls Try.prog 21 #[.pointer (some ⟨b, 0, none⟩), .int .i64 at', .string z] w fun e w' => e = .returned (.tuple #[.int .i64 (s.last + 1), .int .i64 0]) ∧ WhPost 75 63 b B0 V (s.plus at' (.string z)) w w' := by
  have HW := Lib.hid h
  have HO := Lib.hid ho
  have t0 := ho.t0
  have a2 := ho.a1
  have n0 := ho.n0
  have n1 := ho.n1
  clear h ho
  obtain ⟨a, c, hv, _, _⟩ := (Rd.of_own HW.out.own).form
  have HV := Lib.hid hv
  obtain ⟨lb, cb, fb⟩ := HW.out.ob.blk
  have c0 := cb 0
  have c2 := cb 2
  have c3 := cb 3
  rw [hv] at c0 c2 c3
  clear cb hv
  have hd : decide (s.most ≤ (s.l.length : Int)) = false := decide_eq_false (by omega)
  go_enter Try.func21, Try.ntmps21
  go_wp2_with fail
  refine wp_region_quiet_lit (by kernel_rfl) (by kernel_rfl) ?_
  try simp only [List.append]
  repeat (first | go_big_quiet_step (fail) | quiet_step (fail))
  refine wpQuiet_nil ?_
  intro W hW
  have hkW : Kept (fun _ => False) w W := by obtain ⟨n9, rfl⟩ := hW; exact Kept.dn _ _ _
  have HW1 := Lib.hid (HW.out.keptF hkW)
  have HK1 := Lib.hid (hkW.mono (N := WM b V) fun _ _ h => h.elim)
  clear hkW hW c0 c2 c3 lb fb
  obtain ⟨lb, cb, fb⟩ := HW1.out.ob.blk
  have c2 : W.cell? ⟨b, 2, none⟩ = some (.int .i64 s.last) := cb 2
  clear cb
  go_wp2_with fail
  have ob2 := Lib.hid (Ob.cast (HW1.out.ob.set 2 (.int .i64 (s.last + 1))) (show _ = #[.int .i64 s.most, .int .i64 s.now, .int .i64 (s.last + 1), V] from rfl))
  have HK2 := Lib.hid (HK1.out.set ⟨b, 2, none⟩ (.int .i64 (s.last + 1)) (fun _ => .inl rfl))
  have ow2 := Lib.hid (own_kept HW1.out.own ((Kept.refl (Only b) W).setO (i := 2) (v := .int .i64 (s.last + 1))) (fun y hy hh => HW.out.ne (by rw [hy, show y = b from hh])))
  generalize W.setCell ⟨b, 2, none⟩ (.int .i64 (s.last + 1)) = W2 at *
  clear c2 lb fb
  obtain ⟨lb, cb, fb⟩ := ob2.out.blk
  have c1 : W2.cell? ⟨b, 1, none⟩ = some (.int .i64 s.now) := cb 1
  have c2 : W2.cell? ⟨b, 2, none⟩ = some (.int .i64 (s.last + 1)) := cb 2
  have c3 : W2.cell? ⟨b, 3, none⟩ = some (.slice a s.l.length c) := by rw [cb 3, HV.out]; rfl
  clear cb
  have nb := not_since lb
  refine wp_heads (M := (Since W2.heap.size)) 13 (by kernel_rfl) (by kernel_rfl) ?_
  refine hd_quiet [true, true, true, true, true, true, true, true, true, true, true, true, false, false] (by kernel_rfl) ?_
  simp only [pickAt]
  repeat (go_big_quiet_step (fail))
  refine wpQuiet_nil ?_
  refine hd_act 12 rfl (by kernel_rfl) ?_
  refine run_want rfl ?_
  intro A hA
  go_simp
  refine hA _ _ (((Kept.refl _ _).alloc _)) ?_
  try simp only [Act.put, List.setIfInBounds_toArray, List.set_cons_zero, List.set_cons_succ]
  clear A hA
  refine hd_quiet [false, false, false, false, false, false, false, false, false, false, false, false, false, false] (by kernel_rfl) ?_
  simp only [pickAt]
  repeat (go_big_quiet_step (fail))
  refine wpQuiet_nil ?_
  refine hd_tail rfl (by kernel_rfl) ?_
  simp only [List.drop_succ_cons, List.drop_zero]
  go_wp2_with fail
  have HZ3 := Lib.hid ((Ob.new W2 #[.int .i64 (max at' s.now), .int .i64 (s.last + 1), .string z] 63).drew)
  have ob3 := Lib.hid ((ob2.out.alloc (.cells #[.int .i64 (max at' s.now), .int .i64 (s.last + 1), .string z] 63)).drew)
  have HK3 := Lib.hid ((HK2.out.alloc (.cells #[.int .i64 (max at' s.now), .int .i64 (s.last + 1), .string z] 63)).drewR)
  have ow3 := Lib.hid (own_kept ow2.out (((Kept.refl (fun _ => False) W2).alloc (.cells #[.int .i64 (max at' s.now), .int .i64 (s.last + 1), .string z] 63)).drewR) (fun _ _ hh => hh))
  have hZw : w.heap.size ≤ W2.heap.size := HK2.out.size
  have hbZ : b ≠ W2.heap.size := by have := ob2.out.lt; omega
  have hVZ : V.ownBlock ≠ some W2.heap.size := fun hh => by have := (HW.out.lt _ (.inr hh)).2; omega
  refine NoPanic.normal ?_
  generalize (W2.alloc (.cells #[.int .i64 (max at' s.now), .int .i64 (s.last + 1), .string z] 63)).drew = W3 at *
  generalize W2.heap.size = Z at *
  clear c1 c2 c3 lb fb
  obtain ⟨lb, cb, fb⟩ := ob3.out.blk
  have c3 : W3.cell? ⟨b, 3, none⟩ = some (.slice a s.l.length c) := by rw [cb 3, HV.out]; rfl
  obtain ⟨lz, cz, fz⟩ := HZ3.out.blk
  clear cb
  go_wp2_with fail
  refine wp_run (M := (fun _ => False)) (stages [([true, true, true, true, true, false, false, false, false, false, false], 5)] [false, false, false, false, false, false, true, true, true, true, true]) (by kernel_rfl) (by kernel_rfl) ?_
  refine run_stage rfl ?_
  simp only [pickAt]
  repeat (go_big_quiet_step (fail))
  refine wpQuiet_nil ?_
  refine run_want rfl ?_
  intro A hA
  go_simp
  have hrd := Rd.of_own ow3.out
  rw [HV.out] at hrd
  refine (search_dus 34 #[] ⟨max at' s.now, s.last + 1, .string z⟩ (fun y => y.cmp ⟨max at' s.now, s.last + 1, .string z⟩) s.l _ _ (enters_of Try.func34 (by kernel_rfl) rfl) (hrd.keptF (Kept.drew _ _)) (by omega) (mono_cmp HO.out.up ⟨max at' s.now, s.last + 1, .string z⟩) (fun W x _ => order_dus x ⟨max at' s.now, s.last + 1, .string z⟩ W)).mono ?_
  rintro e w4 ⟨hb4, i, f, rfl, hi, h1, h2, _⟩
  have HPOS := Lib.hid (show s.pos ⟨max at' s.now, s.last + 1, .string z⟩ = i from countP_split _ hi (fun y hy => decide_eq_true (h1 y hy)) (fun y hy => decide_eq_false (Int.not_lt.2 (h2 y hy))))
  have HI := Lib.hid hi
  have hk4 := Kept.of_below (M := fun _ => False) hb4
  have ob4 := Lib.hid (ob3.out.drew.kept hk4 id)
  have HZ4 := Lib.hid (HZ3.out.drew.kept hk4 id)
  have ow4 := Lib.hid (own_kept ow3.out ((Kept.drew (fun _ => False) W3).trans hk4) (fun _ _ hh => hh))
  have HK4 := Lib.hid (HK3.out.drewR.trans (hk4.mono (N := WM b V) fun _ _ h => h.elim))
  have hs4 := hb4.size
  refine hA _ _ (hk4) ?_
  try simp only [Act.put, List.setIfInBounds_toArray, List.set_cons_zero, List.set_cons_succ]
  clear A hA
  clear hb4 hk4 hrd h1 h2 hi c3 lb fb lz cz fz
  refine run_last ?_
  simp only [pickAt]
  repeat (go_big_quiet_step (fail))
  refine wpQuiet_nil ?_
  obtain ⟨lb, cb, fb⟩ := ob4.out.blk
  have c3 : w4.cell? ⟨b, 3, none⟩ = some (.slice a s.l.length c) := by rw [cb 3, HV.out]; rfl
  obtain ⟨lz, cz, fz⟩ := HZ4.out.blk
  clear cb
  go_wp2_with fail
  have nb := not_mad HW.out.ne lb
  have nz := not_mad hVZ lz
  have h1r := one_du HO.out.one
  refine wp_heads (M := (Mad V w4.heap.size)) 11 (by kernel_rfl) (by kernel_rfl) ?_
  refine hd_quiet [true, true, true, true, true, true, true, false, false, false, false, false] (by kernel_rfl) ?_
  simp only [pickAt]
  repeat (go_big_quiet_step (fail))
  refine wpQuiet_nil ?_
  refine hd_act 7 rfl (by kernel_rfl) ?_
  refine run_want rfl ?_
  intro A hA
  go_simp
  have hown := own_kept ow4.out (((Kept.drew (fun _ => False) w4)).alloc (.cells #[.int .i64 (max at' s.now), .int .i64 (s.last + 1), .string z] 63)) (fun _ _ hh => hh)
  rw [HV.out] at hown
  have hVw : ∀ x, (Value.slice a s.l.length c).ownBlock = some x → x < w4.heap.size := by rw [← HV.out]; exact fun x hx => (own_lt ow4.out x hx).2
  refine hA _ _ (((Kept.refl _ _).alloc _)) ?_
  try simp only [Act.put, List.setIfInBounds_toArray, List.set_cons_zero, List.set_cons_succ]
  clear A hA
  refine hd_quiet [false, false, false, false, false, false, false, false, false, false, false, false] (by kernel_rfl) ?_
  simp only [pickAt]
  repeat (go_big_quiet_step (fail))
  refine wpQuiet_nil ?_
  refine hd_act 8 rfl (by kernel_rfl) ?_
  refine run_want rfl ?_
  intro A hA
  go_simp
  refine (insert_dus B0 (.slice a s.l.length c) s.l.length i w4.heap.size 1 1 _ [.int .i64 (max at' s.now), .int .i64 (s.last + 1), .string z] _ hown HI.out (by decide) rfl (Rw.new w4.drew #[.int .i64 (max at' s.now), .int .i64 (s.last + 1), .string z] 63) (by decide) (by decide)
    (fun hh => by have := hVw _ hh; omega) h1r (fun u hu => by simp at hu; rcases hu with rfl | rfl | rfl <;> rfl) (by omega) (by have := HW.out.bb; simp; omega)).mono ?_
  rintro e w5 ⟨V5, rfl, ho5, hk5, hb5⟩
  obtain ⟨a5, c5, rfl, _, _⟩ := (Rd.of_own ho5).form
  have hk5' : Kept (Mad V w4.heap.size) (w4.drew.alloc (.cells #[.int .i64 (max at' s.now), .int .i64 (s.last + 1), .string z] 63)) w5 := hk5.mono (fun y _ hy => .inl (by rw [HV.out]; exact hy))
  have ob5 := Lib.hid ((ob4.out.drew.alloc (.cells #[.int .i64 (max at' s.now), .int .i64 (s.last + 1), .string z] 63)).kept hk5 (fun hh => HW.out.ne (by rw [HV.out]; exact hh)))
  have HK5 := Lib.hid ((HK4.out.drewR.alloc (.cells #[.int .i64 (max at' s.now), .int .i64 (s.last + 1), .string z] 63)).trans (hk5.mono (N := WM b V) (fun x _ hx => .inr (by rw [HV.out]; exact hx))))
  have hws : w.heap.size ≤ w4.heap.size := HK4.out.size
  have hpl : (s.plus at' (.string z)).l = s.l.take i ++ [⟨max at' s.now, s.last + 1, .string z⟩] ++ s.l.drop i := by unfold Wl.plus; rw [HPOS.out]
  have HP := Lib.hid (wh_store (s' := (s.plus at' (.string z))) HW.out HK5.out ob5.out ho5 (by
    rcases hb5 with h | h
    · exact .inl (by rw [h, HV.out])
    · exact .inr (fun x hx => by rw [h] at hx; injection hx with hx; rw [← hx, World.size_alloc]; exact Nat.le_succ_of_le hws)) (by rw [hpl]; exact flat_ins s.l i ⟨max at' s.now, s.last + 1, .string z⟩) (by rw [hpl, insd_len HI.out]))
  have lb5 := Lib.hid (ob5.out.blk)
  have c25 : (w5.setCell ⟨b, 3, none⟩ (.slice a5 (s.l.length + 1) c5)).cell? ⟨b, 2, none⟩ = some (.int .i64 (s.last + 1)) := (ob5.out.set 3 _).blk.2.1 2
  refine hA _ _ (hk5') ?_
  try simp only [Act.put, List.setIfInBounds_toArray, List.set_cons_zero, List.set_cons_succ]
  clear A hA
  clear hk5 hk5' hb5 ho5 hown hVw hpl
  refine hd_quiet [false, false, false, false, false, false, false, false, false, true, true, false] (by kernel_rfl) ?_
  simp only [pickAt]
  repeat (go_big_quiet_step (fail))
  refine wpQuiet_nil ?_
  clear lb fb c3 nb nz
  obtain ⟨lb, cb, fb⟩ := lb5.out
  have c35 := cb 3
  clear cb
  refine hd_tail rfl (by kernel_rfl) ?_
  simp only [List.drop_succ_cons, List.drop_zero]
  go_wp2_with fail
  refine NoPanic.normal ?_
  go_wp2_with fail
  go_ret2
  exact ⟨rfl, HP.out⟩
end Go.Proofs.Ytlibnjhoggfhfaa
