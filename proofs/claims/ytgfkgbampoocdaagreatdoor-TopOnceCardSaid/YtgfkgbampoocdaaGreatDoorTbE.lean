/- What a host gets (chapter 20): a message's buffer is opened. -/
import Derived.Test.YtgfkgbampoocdaaGreatDoorTbD
namespace Go.Proofs.YtgfkgbampoocdaaGreatDoor
open Go.RowKit

set_option maxRecDepth 100000 in
set_option maxHeartbeats 1000000 in
theorem opens_full (r : Rs) (B : Nat) (V : Value) (S : Wd) (id : Int) (out : Value) (n : Nat) (xs : List Value) (w : World) (h : Rv r B V S 0 none out n xs w) (hf : 100 ≤ (S.l.length : Int)) (hm : S.mark ≠ id) (hl : S.l.length ≤ 100000) : Calls Tryz.prog 25 #[.pointer (some ⟨r.R, 0, none⟩), .agg #[.int .i64 3, .int .u64 id], .int .i64 1] w fun e w' => e = .returned (.tuple #[.pointer none, .int .i64 4]) ∧ Kept (fun _ => False) w w' := by
  obtain ⟨lb, cb, fb⟩ := h.ob.blk
  have c1 : w.cell? ⟨r.R, 1, none⟩ = some (.pointer (some ⟨r.t, 0, none⟩)) := cb 1
  have HR := Lib.hid h
  have hd1 : decide (100 ≤ (S.l.length : Int)) = true := decide_eq_true hf
  have hd2 : (S.mark == id) = false := beq_eq_false_iff_ne.2 hm
  clear cb h hf hm
  go_enter Tryz.func25, Tryz.ntmps25
  go_wp2_with fail
  have HR1 := Lib.hid (HR.out.keptF ((Kept.refl _ w).alloc (.cells #[.int .i64 3, .int .u64 id] TKey)))
  have HK1 := Lib.hid ((Kept.refl (fun _ => False) w).alloc (.cells #[.int .i64 3, .int .u64 id] TKey))
  have HB1 := Lib.hid (Ob.new w #[.int .i64 3, .int .u64 id] TKey)
  generalize w.alloc (.cells #[.int .i64 3, .int .u64 id] TKey) = w1 at *
  obtain ⟨X, HX⟩ : ∃ X, Hid (w.heap.size = X) := ⟨_, Lib.hid rfl⟩
  rw [HX.out] at HB1 ⊢
  clear c1 lb fb
  obtain ⟨lb, cb, fb⟩ := HR1.out.ob.blk
  have c1 : w1.cell? ⟨r.R, 1, none⟩ = some (.pointer (some ⟨r.t, 0, none⟩)) := cb 1
  obtain ⟨lbb, cbb, fbb⟩ := HB1.out.blk
  have b0 : w1.cell? ⟨X, 0, none⟩ = some (.int .i64 3) := cbb 0
  have b1 : w1.cell? ⟨X, 1, none⟩ = some (.int .u64 id) := cbb 1
  clear cb cbb
  refine wp_run (M := (fun _ => False)) (stages [([true, true, true, true, true, false, false, false, false, false, false], 5)] [false, false, false, false, false, false, true, true, true, true, true]) (by kernel_rfl) (by kernel_rfl) ?_
  refine run_stage rfl ?_
  simp only [pickAt]
  repeat (go_big_quiet_step (fail))
  refine wpQuiet_nil ?_
  refine run_want rfl ?_
  intro A hA
  go_simp
  refine (get_none r.t r.s id _ (HR1.out.tb.keptF (Kept.drew _ _))).mono ?_
  rintro e w2 ⟨rfl, hk2⟩
  have HR2 := Lib.hid ((HR1.out.keptF (Kept.drew _ _)).keptF hk2)
  have HB2 := Lib.hid (HB1.out.drew.kept hk2 fun h => h)
  have HK2 := Lib.hid ((HK1.out.trans (Kept.drew _ _)).trans hk2)
  refine hA _ _ (hk2) ?_
  try simp only [Act.put, List.setIfInBounds_toArray, List.set_cons_zero, List.set_cons_succ]
  clear A hA
  clear hk2 c1 b0 b1 lb fb lbb fbb
  refine run_last ?_
  simp only [pickAt]
  repeat (go_big_quiet_step (fail))
  refine wpQuiet_nil ?_
  obtain ⟨lb, cb, fb⟩ := HR2.out.ob.blk
  have c1 : w2.cell? ⟨r.R, 1, none⟩ = some (.pointer (some ⟨r.t, 0, none⟩)) := cb 1
  have c5 : w2.cell? ⟨r.R, 5, none⟩ = some (.pointer (some ⟨r.m, 0, none⟩)) := cb 5
  have c13 : w2.cell? ⟨r.R, 13, none⟩ = some (.int .i64 0) := cb 13
  have c18 : w2.cell? ⟨r.R, 18, none⟩ = some (.int .i64 100) := cb 18
  obtain ⟨lbb, cbb, fbb⟩ := HB2.out.blk
  have b0 : w2.cell? ⟨X, 0, none⟩ = some (.int .i64 3) := cbb 0
  have b1 : w2.cell? ⟨X, 1, none⟩ = some (.int .u64 id) := cbb 1
  clear cb cbb
  go_wp2_with fail
  refine wp_region_quiet_lit (by kernel_rfl) (by kernel_rfl) ?_
  try simp only [List.append]
  repeat (first | go_big_quiet_step (fail) | quiet_step (fail))
  refine wpQuiet_nil ?_
  intro W hW
  have hkW : Kept (fun _ => False) w2 W := by obtain ⟨n9, rfl⟩ := hW; exact Kept.dn _ _ _
  have HR3 := Lib.hid (HR2.out.keptF hkW)
  have HB3 := Lib.hid (HB2.out.kept hkW fun h => h)
  have HK3 := Lib.hid (HK2.out.trans hkW)
  have T3 := fun n => HR3.out.tb.keptF (Kept.dn _ W n)
  have W3 := fun n => HR3.out.wi.dn (n := n)
  clear hW hkW c1 c5 c13 c18 b0 b1 lb fb lbb fbb
  obtain ⟨lb, cb, fb⟩ := HR3.out.ob.blk
  have c1 : W.cell? ⟨r.R, 1, none⟩ = some (.pointer (some ⟨r.t, 0, none⟩)) := cb 1
  have c13 : W.cell? ⟨r.R, 13, none⟩ = some (.int .i64 0) := cb 13
  have c18 : W.cell? ⟨r.R, 18, none⟩ = some (.int .i64 100) := cb 18
  obtain ⟨lbb, cbb, fbb⟩ := HB3.out.blk
  have b0 : W.cell? ⟨X, 0, none⟩ = some (.int .i64 3) := cbb 0
  have b1 : W.cell? ⟨X, 1, none⟩ = some (.int .u64 id) := cbb 1
  clear cb cbb
  go_wp2_with fail
  refine wp_region_quiet_lit (by kernel_rfl) (by kernel_rfl) ?_
  try simp only [List.append]
  repeat (first | go_big_quiet_step (first | (go_at_call 59; exact quietS (tlen_any r.t r.s none _ (T3 _))) | (go_at_call 59; exact quietA (tlen_any r.t r.s none _ (T3 _))) | (go_at_call 60; exact quietS (len_any r.m B V S _ (W3 _))) | (go_at_call 60; exact quietA (len_any r.m B V S _ (W3 _))) | (go_at_call 61; exact quietS (mark_any r.m B V S _ (W3 _))) | (go_at_call 61; exact quietA (mark_any r.m B V S _ (W3 _)))) | quiet_step (first | (go_at_call 59; exact quietS (tlen_any r.t r.s none _ (T3 _))) | (go_at_call 59; exact quietA (tlen_any r.t r.s none _ (T3 _))) | (go_at_call 60; exact quietS (len_any r.m B V S _ (W3 _))) | (go_at_call 60; exact quietA (len_any r.m B V S _ (W3 _))) | (go_at_call 61; exact quietS (mark_any r.m B V S _ (W3 _))) | (go_at_call 61; exact quietA (mark_any r.m B V S _ (W3 _)))))
  refine wpQuiet_nil ?_
  intro W2 hW2
  obtain ⟨q2, rfl⟩ := hW2
  go_wp2_with fail
  go_ret2
  exact ⟨rfl, HK3.out.trans (Kept.dn _ _ _)⟩
theorem Rv.byte {r : Rs} {B : Nat} {V : Value} {S : Wd} {k3 : Int} {on : Option (Int × Value)} {out : Value} {n : Nat} {xs : List Value} {w : World} (h : Rv r B V S k3 on out n xs w) {a : Nat} {cs : Array Value} (ha : Ob w a cs 5) : ¬ RvM r V out a := by
  rintro (e | e | e | e | e)
  · exact ob_ne ha h.ob (by decide) e
  · exact ob_ne ha h.tb.ob (by decide) e
  · exact ob_ne ha h.tb.sl (by decide) e
  · rcases e with e | e
    · exact ob_ne ha h.wi.ob (by decide) e
    · obtain ⟨cur, hc⟩ := own_ob h.wi.own e
      exact ob_ne ha hc (by decide) rfl
  · obtain ⟨cur, hc⟩ := own_ob h.ou e
    exact ob_ne ha hc (by decide) rfl
def Ts (r : Rs) : Nat → Prop := fun x => x = r.t ∨ x = r.s
def RtsA (r : Rs) (a : Nat) : Nat → Prop := fun x => x = a ∨ x = r.R ∨ x = r.t ∨ x = r.s
set_option maxRecDepth 100000 in
set_option maxHeartbeats 2000000 in
theorem opens_new {x : Ev.Bn} {o : Nat} {H : Ev.Hp} (hr : Ev.runNew = some (x, o, H)) (r : Rs) (B : Nat) (V : Value) (S : Wd) (id : Int) (out : Value) (n : Nat) (xs : List Value) (a : Nat) (w : World) (h : Rv r B V S 0 none out n xs w) (ha : Ob w a #[.int .u8 7] 5) (hf : ¬ (100 ≤ (S.l.length : Int) ∧ S.mark ≠ id)) (hl : S.l.length ≤ 100000) : Calls Tryz.prog 25 #[.pointer (some ⟨r.R, 0, none⟩), .agg #[.int .i64 3, .int .u64 id], .int .i64 1] w fun e w' => ∃ v B1, e = .returned (.tuple #[.pointer (some v), .int .i64 0]) ∧ Rv r B V S 1 (some (id, .pointer (some v))) out n xs w' ∧ BufAt x o H a B1 v w' ∧ w.heap.size ≤ B1 ∧ B1 ≤ w'.heap.size ∧ Kept (RtsA r a) w w' := by
  obtain ⟨lb, cb, fb⟩ := h.ob.blk
  have c1 : w.cell? ⟨r.R, 1, none⟩ = some (.pointer (some ⟨r.t, 0, none⟩)) := cb 1
  have HR := Lib.hid h
  have HA := Lib.hid ha
  obtain ⟨d1, hd1, hdd⟩ : ∃ d1, decide (100 ≤ (S.l.length : Int)) = d1 ∧ (d1 = true → (S.mark == id) = true) := by
    refine ⟨_, rfl, fun e => ?_⟩
    have := of_decide_eq_true e
    by_cases hm : S.mark = id
    · exact beq_iff_eq.2 hm
    · exact absurd ⟨this, hm⟩ hf
  clear cb h hf ha
  cases d1 with
  | true =>
    have hd2 := hdd rfl
    clear hdd
    go_enter Tryz.func25, Tryz.ntmps25
    go_wp2_with fail
    have HR1 := Lib.hid (HR.out.keptF ((Kept.refl _ w).alloc (.cells #[.int .i64 3, .int .u64 id] TKey)))
    have HK1 := Lib.hid ((Kept.refl (fun _ => False) w).alloc (.cells #[.int .i64 3, .int .u64 id] TKey))
    have HB1 := Lib.hid (Ob.new w #[.int .i64 3, .int .u64 id] TKey)
    generalize w.alloc (.cells #[.int .i64 3, .int .u64 id] TKey) = w1 at *
    obtain ⟨X, HX⟩ : ∃ X, Hid (w.heap.size = X) := ⟨_, Lib.hid rfl⟩
    rw [HX.out] at HB1 ⊢
    clear c1 lb fb
    obtain ⟨lb, cb, fb⟩ := HR1.out.ob.blk
    have c1 : w1.cell? ⟨r.R, 1, none⟩ = some (.pointer (some ⟨r.t, 0, none⟩)) := cb 1
    obtain ⟨lbb, cbb, fbb⟩ := HB1.out.blk
    have b0 : w1.cell? ⟨X, 0, none⟩ = some (.int .i64 3) := cbb 0
    have b1 : w1.cell? ⟨X, 1, none⟩ = some (.int .u64 id) := cbb 1
    clear cb cbb
    refine wp_run (M := (fun _ => False)) (stages [([true, true, true, true, true, false, false, false, false, false, false], 5)] [false, false, false, false, false, false, true, true, true, true, true]) (by kernel_rfl) (by kernel_rfl) ?_
    refine run_stage rfl ?_
    simp only [pickAt]
    repeat (go_big_quiet_step (fail))
    refine wpQuiet_nil ?_
    refine run_want rfl ?_
    intro A hA
    go_simp
    refine (get_none r.t r.s id _ (HR1.out.tb.keptF (Kept.drew _ _))).mono ?_
    rintro e w2 ⟨rfl, hk2⟩
    have HR2 := Lib.hid ((HR1.out.keptF (Kept.drew _ _)).keptF hk2)
    have HB2 := Lib.hid (HB1.out.drew.kept hk2 fun h => h)
    have HK2 := Lib.hid ((HK1.out.trans (Kept.drew _ _)).trans hk2)
    refine hA _ _ (hk2) ?_
    try simp only [Act.put, List.setIfInBounds_toArray, List.set_cons_zero, List.set_cons_succ]
    clear A hA
    clear hk2 c1 b0 b1 lb fb lbb fbb
    refine run_last ?_
    simp only [pickAt]
    repeat (go_big_quiet_step (fail))
    refine wpQuiet_nil ?_
    obtain ⟨lb, cb, fb⟩ := HR2.out.ob.blk
    have c1 : w2.cell? ⟨r.R, 1, none⟩ = some (.pointer (some ⟨r.t, 0, none⟩)) := cb 1
    have c5 : w2.cell? ⟨r.R, 5, none⟩ = some (.pointer (some ⟨r.m, 0, none⟩)) := cb 5
    have c13 : w2.cell? ⟨r.R, 13, none⟩ = some (.int .i64 0) := cb 13
    have c18 : w2.cell? ⟨r.R, 18, none⟩ = some (.int .i64 100) := cb 18
    obtain ⟨lbb, cbb, fbb⟩ := HB2.out.blk
    have b0 : w2.cell? ⟨X, 0, none⟩ = some (.int .i64 3) := cbb 0
    have b1 : w2.cell? ⟨X, 1, none⟩ = some (.int .u64 id) := cbb 1
    clear cb cbb
    go_wp2_with fail
    refine wp_region_quiet_lit (by kernel_rfl) (by kernel_rfl) ?_
    try simp only [List.append]
    repeat (first | go_big_quiet_step (fail) | quiet_step (fail))
    refine wpQuiet_nil ?_
    intro W hW
    have hkW : Kept (fun _ => False) w2 W := by obtain ⟨n9, rfl⟩ := hW; exact Kept.dn _ _ _
    have HR3 := Lib.hid (HR2.out.keptF hkW)
    have HB3 := Lib.hid (HB2.out.kept hkW fun h => h)
    have HK3 := Lib.hid (HK2.out.trans hkW)
    have T3 := fun n => HR3.out.tb.keptF (Kept.dn _ W n)
    have W3 := fun n => HR3.out.wi.dn (n := n)
    clear hW hkW c1 c5 c13 c18 b0 b1 lb fb lbb fbb
    obtain ⟨lb, cb, fb⟩ := HR3.out.ob.blk
    have c1 : W.cell? ⟨r.R, 1, none⟩ = some (.pointer (some ⟨r.t, 0, none⟩)) := cb 1
    have c13 : W.cell? ⟨r.R, 13, none⟩ = some (.int .i64 0) := cb 13
    have c18 : W.cell? ⟨r.R, 18, none⟩ = some (.int .i64 100) := cb 18
    obtain ⟨lbb, cbb, fbb⟩ := HB3.out.blk
    have b0 : W.cell? ⟨X, 0, none⟩ = some (.int .i64 3) := cbb 0
    have b1 : W.cell? ⟨X, 1, none⟩ = some (.int .u64 id) := cbb 1
    clear cb cbb
    go_wp2_with fail
    refine wp_region_quiet_lit (by kernel_rfl) (by kernel_rfl) ?_
    try simp only [List.append]
    repeat (first | go_big_quiet_step (first | (go_at_call 59; exact quietS (tlen_any r.t r.s none _ (T3 _))) | (go_at_call 59; exact quietA (tlen_any r.t r.s none _ (T3 _))) | (go_at_call 60; exact quietS (len_any r.m B V S _ (W3 _))) | (go_at_call 60; exact quietA (len_any r.m B V S _ (W3 _))) | (go_at_call 61; exact quietS (mark_any r.m B V S _ (W3 _))) | (go_at_call 61; exact quietA (mark_any r.m B V S _ (W3 _)))) | quiet_step (first | (go_at_call 59; exact quietS (tlen_any r.t r.s none _ (T3 _))) | (go_at_call 59; exact quietA (tlen_any r.t r.s none _ (T3 _))) | (go_at_call 60; exact quietS (len_any r.m B V S _ (W3 _))) | (go_at_call 60; exact quietA (len_any r.m B V S _ (W3 _))) | (go_at_call 61; exact quietS (mark_any r.m B V S _ (W3 _))) | (go_at_call 61; exact quietA (mark_any r.m B V S _ (W3 _)))))
    refine wpQuiet_nil ?_
    intro W2 hW2
    have hkW2 : Kept (fun _ => False) W W2 := by obtain ⟨n9, rfl⟩ := hW2; exact Kept.dn _ _ _
    clear hW2
    have HR4 := Lib.hid (HR3.out.keptF hkW2)
    have HB4 := Lib.hid (HB3.out.kept hkW2 fun h => h)
    have HK4 := Lib.hid (HK3.out.trans hkW2)
    have HA4 := Lib.hid (HA.out.kept HK4.out fun h => h)
    clear hkW2 c1 c13 c18 b0 b1 lb fb lbb fbb T3 W3 HR3 HB3 HK3 HR2 HB2 HK2 HR1 HB1 HK1
    obtain ⟨lb, cb, fb⟩ := HR4.out.ob.blk
    have c0 : W2.cell? ⟨r.R, 0, none⟩ = some (.int .i64 1000) := cb 0
    clear cb
    go_wp2_with fail
    refine (new_byte hr a _ HA4.out).mono ?_
    rintro e w5 ⟨v, rfl, hb5, hk5⟩
    have HB5 := Lib.hid (HB4.out.kept hk5 (ob_ne HA4.out HB4.out (by decide)).symm)
    have hnA := Lib.hid (HR4.out.byte HA4.out)
    have HR5 := Lib.hid (HR4.out.kept hk5 (fun x hx hh => by rw [show x = a from hh] at hx; exact hnA.out hx))
    have HK5 := Lib.hid (HK4.out.mono (N := RtsA r a) (fun _ _ h => h.elim) |>.trans (hk5.mono fun _ _ h => .inl h))
    have HBu := Lib.hid hb5
    have HS5 := Lib.hid hk5.size
    clear hb5 hk5 c0
    obtain ⟨lb, cb, fb⟩ := HR5.out.ob.blk
    have c1 : w5.cell? ⟨r.R, 1, none⟩ = some (.pointer (some ⟨r.t, 0, none⟩)) := cb 1
    have c13 : w5.cell? ⟨r.R, 13, none⟩ = some (.int .i64 0) := cb 13
    obtain ⟨lbb, cbb, fbb⟩ := HB5.out.blk
    have b0 : w5.cell? ⟨X, 0, none⟩ = some (.int .i64 3) := cbb 0
    have b1 : w5.cell? ⟨X, 1, none⟩ = some (.int .u64 id) := cbb 1
    clear cb cbb
    go_wp2_with fail
    obtain ⟨⟨a1, a2, a3⟩, ⟨e1, e2, e3⟩, d1, d2, d3, d4⟩ := HR5.out.apart
    have nR : ¬ Ts r r.R := fun hh => hh.elim a1 a2
    have nX : ¬ Ts r X := fun hh => hh.elim (ob_ne HB5.out HR5.out.tb.ob (by decide)) (ob_ne HB5.out HR5.out.tb.sl (by decide))
    refine wp_run (M := (Ts r)) (stages [([true, true, true, true, true, true, false, false], 6)] [false, false, false, false, false, false, false, true]) (by kernel_rfl) (by kernel_rfl) ?_
    refine run_stage rfl ?_
    simp only [pickAt]
    repeat (go_big_quiet_step (fail))
    refine wpQuiet_nil ?_
    refine run_want rfl ?_
    intro A hA
    go_simp
    refine (put_none r.t r.s id v _ (HR5.out.tb.keptF (Kept.drew _ _))).mono ?_
    rintro e w6 ⟨rfl, ht6, hk6⟩
    have hk6' : Kept (Ts r) w5 w6 := ((Kept.drew _ _).trans hk6).mono fun _ _ h => h
    have HT6 := Lib.hid ht6
    have HO6 := Lib.hid (HR5.out.ob.kept hk6' nR)
    have HW6 := Lib.hid (HR5.out.wi.kept hk6' (fun x hx hh => by rcases hh with rfl | rfl; exact e2 hx; exact e3 hx))
    have HU6 := Lib.hid (own_kept HR5.out.ou hk6' (fun x hx hh => by rcases hh with rfl | rfl; exact d2 hx; exact d3 hx))
    have HQ6 := Lib.hid hk6'
    have HB6 := Lib.hid (HB5.out.kept hk6' nX)
    have HK6 := Lib.hid (hk6'.mono (N := RtsA r a) fun _ _ h => .inr (.inr h))
    refine hA _ _ (hk6) ?_
    try simp only [Act.put, List.setIfInBounds_toArray, List.set_cons_zero, List.set_cons_succ]
    clear A hA
    clear hk6 hk6' ht6 c1 c13 b0 b1 lb fb lbb fbb nR nX
    refine run_last ?_
    simp only [pickAt]
    repeat (go_big_quiet_step (fail))
    refine wpQuiet_nil ?_
    obtain ⟨lb, cb, fb⟩ := HO6.out.blk
    have c13 : w6.cell? ⟨r.R, 13, none⟩ = some (.int .i64 0) := cb 13
    obtain ⟨lbb, cbb, fbb⟩ := HB6.out.blk
    have b0 : w6.cell? ⟨X, 0, none⟩ = some (.int .i64 3) := cbb 0
    clear cb cbb
    go_wp2_with fail
    refine region_tail 11 (by kernel_rfl) (by kernel_rfl) ?_
    simp only [List.take_succ_cons, List.take_zero, List.drop_succ_cons, List.drop_zero]
    repeat (first | still_step)
    refine wpStill_nil ?_
    go_wp2_with fail
    go_ret2
    have nR : ∀ x, Only r.R x → x = r.R := fun _ h => h
    have hkO : Kept (Only r.R) w6 (w6.drew.setCell ⟨r.R, 13, none⟩ (.int .i64 1)) := by
      repeat (first | (with_reducible refine (Kept.drewR ?_)) | (with_reducible refine (Kept.dnR ?_ _)) | (with_reducible refine (Kept.setO ?_)) | exact (Kept.refl _ _))
    have hkB : Kept (fun x => x = r.R ∨ x = r.t ∨ x = r.s) w5 (w6.drew.setCell ⟨r.R, 13, none⟩ (.int .i64 1)) := (HQ6.out.mono fun _ _ h => .inr h).trans (hkO.mono fun _ _ h => .inl h)
    refine ⟨v, W2.heap.size, rfl, ⟨Ob.cast (HO6.out.drew.set 13 (.int .i64 1)) rfl, HT6.out.kept hkO a1.symm a2.symm, HW6.out.kept hkO (fun x hx hh => by rw [nR x hh] at hx; exact e1 hx), own_kept HU6.out hkO (fun x hx hh => by rw [nR x hh] at hx; exact d1 hx), HR4.out.bR, HR4.out.bt, HR4.out.bs⟩, HBu.out.kept hkB (fun hh => hnA.out (by rcases hh with e | e | e; exact .inl e; exact .inr (.inl e); exact .inr (.inr (.inl e)))) (fun b hb hh => by
      rcases hh with rfl | rfl | rfl
      · exact absurd (HR4.out.lt _ (.inl rfl)).2 (Nat.not_lt.2 hb)
      · exact absurd (HR4.out.lt _ (.inr (.inl rfl))).2 (Nat.not_lt.2 hb)
      · exact absurd (HR4.out.lt _ (.inr (.inr (.inl rfl)))).2 (Nat.not_lt.2 hb)), HK4.out.size, Nat.le_trans HS5.out hkB.size, (HK5.out.trans HK6.out).trans (hkO.mono fun _ _ h => .inr (.inl h))⟩
  | false =>
    clear hdd
    go_enter Tryz.func25, Tryz.ntmps25
    go_wp2_with fail
    have HR1 := Lib.hid (HR.out.keptF ((Kept.refl _ w).alloc (.cells #[.int .i64 3, .int .u64 id] TKey)))
    have HK1 := Lib.hid ((Kept.refl (fun _ => False) w).alloc (.cells #[.int .i64 3, .int .u64 id] TKey))
    have HB1 := Lib.hid (Ob.new w #[.int .i64 3, .int .u64 id] TKey)
    generalize w.alloc (.cells #[.int .i64 3, .int .u64 id] TKey) = w1 at *
    obtain ⟨X, HX⟩ : ∃ X, Hid (w.heap.size = X) := ⟨_, Lib.hid rfl⟩
    rw [HX.out] at HB1 ⊢
    clear c1 lb fb
    obtain ⟨lb, cb, fb⟩ := HR1.out.ob.blk
    have c1 : w1.cell? ⟨r.R, 1, none⟩ = some (.pointer (some ⟨r.t, 0, none⟩)) := cb 1
    obtain ⟨lbb, cbb, fbb⟩ := HB1.out.blk
    have b0 : w1.cell? ⟨X, 0, none⟩ = some (.int .i64 3) := cbb 0
    have b1 : w1.cell? ⟨X, 1, none⟩ = some (.int .u64 id) := cbb 1
    clear cb cbb
    refine wp_run (M := (fun _ => False)) (stages [([true, true, true, true, true, false, false, false, false, false, false], 5)] [false, false, false, false, false, false, true, true, true, true, true]) (by kernel_rfl) (by kernel_rfl) ?_
    refine run_stage rfl ?_
    simp only [pickAt]
    repeat (go_big_quiet_step (fail))
    refine wpQuiet_nil ?_
    refine run_want rfl ?_
    intro A hA
    go_simp
    refine (get_none r.t r.s id _ (HR1.out.tb.keptF (Kept.drew _ _))).mono ?_
    rintro e w2 ⟨rfl, hk2⟩
    have HR2 := Lib.hid ((HR1.out.keptF (Kept.drew _ _)).keptF hk2)
    have HB2 := Lib.hid (HB1.out.drew.kept hk2 fun h => h)
    have HK2 := Lib.hid ((HK1.out.trans (Kept.drew _ _)).trans hk2)
    refine hA _ _ (hk2) ?_
    try simp only [Act.put, List.setIfInBounds_toArray, List.set_cons_zero, List.set_cons_succ]
    clear A hA
    clear hk2 c1 b0 b1 lb fb lbb fbb
    refine run_last ?_
    simp only [pickAt]
    repeat (go_big_quiet_step (fail))
    refine wpQuiet_nil ?_
    obtain ⟨lb, cb, fb⟩ := HR2.out.ob.blk
    have c1 : w2.cell? ⟨r.R, 1, none⟩ = some (.pointer (some ⟨r.t, 0, none⟩)) := cb 1
    have c5 : w2.cell? ⟨r.R, 5, none⟩ = some (.pointer (some ⟨r.m, 0, none⟩)) := cb 5
    have c13 : w2.cell? ⟨r.R, 13, none⟩ = some (.int .i64 0) := cb 13
    have c18 : w2.cell? ⟨r.R, 18, none⟩ = some (.int .i64 100) := cb 18
    obtain ⟨lbb, cbb, fbb⟩ := HB2.out.blk
    have b0 : w2.cell? ⟨X, 0, none⟩ = some (.int .i64 3) := cbb 0
    have b1 : w2.cell? ⟨X, 1, none⟩ = some (.int .u64 id) := cbb 1
    clear cb cbb
    go_wp2_with fail
    refine wp_region_quiet_lit (by kernel_rfl) (by kernel_rfl) ?_
    try simp only [List.append]
    repeat (first | go_big_quiet_step (fail) | quiet_step (fail))
    refine wpQuiet_nil ?_
    intro W hW
    have hkW : Kept (fun _ => False) w2 W := by obtain ⟨n9, rfl⟩ := hW; exact Kept.dn _ _ _
    have HR3 := Lib.hid (HR2.out.keptF hkW)
    have HB3 := Lib.hid (HB2.out.kept hkW fun h => h)
    have HK3 := Lib.hid (HK2.out.trans hkW)
    have T3 := fun n => HR3.out.tb.keptF (Kept.dn _ W n)
    have W3 := fun n => HR3.out.wi.dn (n := n)
    clear hW hkW c1 c5 c13 c18 b0 b1 lb fb lbb fbb
    obtain ⟨lb, cb, fb⟩ := HR3.out.ob.blk
    have c1 : W.cell? ⟨r.R, 1, none⟩ = some (.pointer (some ⟨r.t, 0, none⟩)) := cb 1
    have c13 : W.cell? ⟨r.R, 13, none⟩ = some (.int .i64 0) := cb 13
    have c18 : W.cell? ⟨r.R, 18, none⟩ = some (.int .i64 100) := cb 18
    obtain ⟨lbb, cbb, fbb⟩ := HB3.out.blk
    have b0 : W.cell? ⟨X, 0, none⟩ = some (.int .i64 3) := cbb 0
    have b1 : W.cell? ⟨X, 1, none⟩ = some (.int .u64 id) := cbb 1
    clear cb cbb
    go_wp2_with fail
    refine wp_region_quiet_lit (by kernel_rfl) (by kernel_rfl) ?_
    try simp only [List.append]
    repeat (first | go_big_quiet_step (first | (go_at_call 59; exact quietS (tlen_any r.t r.s none _ (T3 _))) | (go_at_call 59; exact quietA (tlen_any r.t r.s none _ (T3 _))) | (go_at_call 60; exact quietS (len_any r.m B V S _ (W3 _))) | (go_at_call 60; exact quietA (len_any r.m B V S _ (W3 _))) | (go_at_call 61; exact quietS (mark_any r.m B V S _ (W3 _))) | (go_at_call 61; exact quietA (mark_any r.m B V S _ (W3 _)))) | quiet_step (first | (go_at_call 59; exact quietS (tlen_any r.t r.s none _ (T3 _))) | (go_at_call 59; exact quietA (tlen_any r.t r.s none _ (T3 _))) | (go_at_call 60; exact quietS (len_any r.m B V S _ (W3 _))) | (go_at_call 60; exact quietA (len_any r.m B V S _ (W3 _))) | (go_at_call 61; exact quietS (mark_any r.m B V S _ (W3 _))) | (go_at_call 61; exact quietA (mark_any r.m B V S _ (W3 _)))))
    refine wpQuiet_nil ?_
    intro W2 hW2
    have hkW2 : Kept (fun _ => False) W W2 := by obtain ⟨n9, rfl⟩ := hW2; exact Kept.dn _ _ _
    clear hW2
    have HR4 := Lib.hid (HR3.out.keptF hkW2)
    have HB4 := Lib.hid (HB3.out.kept hkW2 fun h => h)
    have HK4 := Lib.hid (HK3.out.trans hkW2)
    have HA4 := Lib.hid (HA.out.kept HK4.out fun h => h)
    clear hkW2 c1 c13 c18 b0 b1 lb fb lbb fbb T3 W3 HR3 HB3 HK3 HR2 HB2 HK2 HR1 HB1 HK1
    obtain ⟨lb, cb, fb⟩ := HR4.out.ob.blk
    have c0 : W2.cell? ⟨r.R, 0, none⟩ = some (.int .i64 1000) := cb 0
    clear cb
    go_wp2_with fail
    refine (new_byte hr a _ HA4.out).mono ?_
    rintro e w5 ⟨v, rfl, hb5, hk5⟩
    have HB5 := Lib.hid (HB4.out.kept hk5 (ob_ne HA4.out HB4.out (by decide)).symm)
    have hnA := Lib.hid (HR4.out.byte HA4.out)
    have HR5 := Lib.hid (HR4.out.kept hk5 (fun x hx hh => by rw [show x = a from hh] at hx; exact hnA.out hx))
    have HK5 := Lib.hid (HK4.out.mono (N := RtsA r a) (fun _ _ h => h.elim) |>.trans (hk5.mono fun _ _ h => .inl h))
    have HBu := Lib.hid hb5
    have HS5 := Lib.hid hk5.size
    clear hb5 hk5 c0
    obtain ⟨lb, cb, fb⟩ := HR5.out.ob.blk
    have c1 : w5.cell? ⟨r.R, 1, none⟩ = some (.pointer (some ⟨r.t, 0, none⟩)) := cb 1
    have c13 : w5.cell? ⟨r.R, 13, none⟩ = some (.int .i64 0) := cb 13
    obtain ⟨lbb, cbb, fbb⟩ := HB5.out.blk
    have b0 : w5.cell? ⟨X, 0, none⟩ = some (.int .i64 3) := cbb 0
    have b1 : w5.cell? ⟨X, 1, none⟩ = some (.int .u64 id) := cbb 1
    clear cb cbb
    go_wp2_with fail
    obtain ⟨⟨a1, a2, a3⟩, ⟨e1, e2, e3⟩, d1, d2, d3, d4⟩ := HR5.out.apart
    have nR : ¬ Ts r r.R := fun hh => hh.elim a1 a2
    have nX : ¬ Ts r X := fun hh => hh.elim (ob_ne HB5.out HR5.out.tb.ob (by decide)) (ob_ne HB5.out HR5.out.tb.sl (by decide))
    refine wp_run (M := (Ts r)) (stages [([true, true, true, true, true, true, false, false], 6)] [false, false, false, false, false, false, false, true]) (by kernel_rfl) (by kernel_rfl) ?_
    refine run_stage rfl ?_
    simp only [pickAt]
    repeat (go_big_quiet_step (fail))
    refine wpQuiet_nil ?_
    refine run_want rfl ?_
    intro A hA
    go_simp
    refine (put_none r.t r.s id v _ (HR5.out.tb.keptF (Kept.drew _ _))).mono ?_
    rintro e w6 ⟨rfl, ht6, hk6⟩
    have hk6' : Kept (Ts r) w5 w6 := ((Kept.drew _ _).trans hk6).mono fun _ _ h => h
    have HT6 := Lib.hid ht6
    have HO6 := Lib.hid (HR5.out.ob.kept hk6' nR)
    have HW6 := Lib.hid (HR5.out.wi.kept hk6' (fun x hx hh => by rcases hh with rfl | rfl; exact e2 hx; exact e3 hx))
    have HU6 := Lib.hid (own_kept HR5.out.ou hk6' (fun x hx hh => by rcases hh with rfl | rfl; exact d2 hx; exact d3 hx))
    have HQ6 := Lib.hid hk6'
    have HB6 := Lib.hid (HB5.out.kept hk6' nX)
    have HK6 := Lib.hid (hk6'.mono (N := RtsA r a) fun _ _ h => .inr (.inr h))
    refine hA _ _ (hk6) ?_
    try simp only [Act.put, List.setIfInBounds_toArray, List.set_cons_zero, List.set_cons_succ]
    clear A hA
    clear hk6 hk6' ht6 c1 c13 b0 b1 lb fb lbb fbb nR nX
    refine run_last ?_
    simp only [pickAt]
    repeat (go_big_quiet_step (fail))
    refine wpQuiet_nil ?_
    obtain ⟨lb, cb, fb⟩ := HO6.out.blk
    have c13 : w6.cell? ⟨r.R, 13, none⟩ = some (.int .i64 0) := cb 13
    obtain ⟨lbb, cbb, fbb⟩ := HB6.out.blk
    have b0 : w6.cell? ⟨X, 0, none⟩ = some (.int .i64 3) := cbb 0
    clear cb cbb
    go_wp2_with fail
    refine region_tail 11 (by kernel_rfl) (by kernel_rfl) ?_
    simp only [List.take_succ_cons, List.take_zero, List.drop_succ_cons, List.drop_zero]
    repeat (first | still_step)
    refine wpStill_nil ?_
    go_wp2_with fail
    go_ret2
    have nR : ∀ x, Only r.R x → x = r.R := fun _ h => h
    have hkO : Kept (Only r.R) w6 (w6.drew.setCell ⟨r.R, 13, none⟩ (.int .i64 1)) := by
      repeat (first | (with_reducible refine (Kept.drewR ?_)) | (with_reducible refine (Kept.dnR ?_ _)) | (with_reducible refine (Kept.setO ?_)) | exact (Kept.refl _ _))
    have hkB : Kept (fun x => x = r.R ∨ x = r.t ∨ x = r.s) w5 (w6.drew.setCell ⟨r.R, 13, none⟩ (.int .i64 1)) := (HQ6.out.mono fun _ _ h => .inr h).trans (hkO.mono fun _ _ h => .inl h)
    refine ⟨v, W2.heap.size, rfl, ⟨Ob.cast (HO6.out.drew.set 13 (.int .i64 1)) rfl, HT6.out.kept hkO a1.symm a2.symm, HW6.out.kept hkO (fun x hx hh => by rw [nR x hh] at hx; exact e1 hx), own_kept HU6.out hkO (fun x hx hh => by rw [nR x hh] at hx; exact d1 hx), HR4.out.bR, HR4.out.bt, HR4.out.bs⟩, HBu.out.kept hkB (fun hh => hnA.out (by rcases hh with e | e | e; exact .inl e; exact .inr (.inl e); exact .inr (.inr (.inl e)))) (fun b hb hh => by
      rcases hh with rfl | rfl | rfl
      · exact absurd (HR4.out.lt _ (.inl rfl)).2 (Nat.not_lt.2 hb)
      · exact absurd (HR4.out.lt _ (.inr (.inl rfl))).2 (Nat.not_lt.2 hb)
      · exact absurd (HR4.out.lt _ (.inr (.inr (.inl rfl)))).2 (Nat.not_lt.2 hb)), HK4.out.size, Nat.le_trans HS5.out hkB.size, (HK5.out.trans HK6.out).trans (hkO.mono fun _ _ h => .inr (.inl h))⟩
end Go.Proofs.YtgfkgbampoocdaaGreatDoor
