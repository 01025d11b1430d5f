/- The document's port (chapter 13): push. -/
import Derived.Test.YthgkminjhpaakaaPoRb
namespace Go.Proofs.Ythgkminjhpaakaa
open Go.RowKit

theorem hd_op {P : Program} {M : Nat → Prop} {Q : Exit → Act → World → Prop} {l : List Oper} {n fuel : Nat} {listed : Array Bool} {a : Act} {W : World} {j : Nat} {o : Oper} (ho : l[j]? = some o) (hn : j < n)
    (h : goAt P M Q l.toArray o a W (fun a' w' => Heads P M Q l n fuel (listed.setIfInBounds j true) a' w')) : j < n ∧ wpOp P l.toArray (NoPanic Q) j (fun a' w' => Kept M W w' ∧ wpHead P .any l.toArray (NoPanic Q) (Kept M W) n (TailOk P Q l n) fuel (listed.setIfInBounds j true) a' w') a W := by
  have ho' : l.toArray[j]? = some o := by simpa using ho
  refine ⟨hn, ?_⟩
  unfold wpOp
  simp only [ho']
  unfold goAt at h
  by_cases hw : Region.wanted o (yielded l.toArray a.tmps) = true
  · rw [if_pos hw] at h ⊢
    exact .inl (h _ fun a' w' hk' hn => ⟨hk', wpHead_mono (fun x hx => hk'.trans hx) fuel _ a' w' hn⟩)
  · rw [if_neg hw] at h ⊢
    exact ⟨Kept.refl _ _, h⟩
/-- one of two that act -/
theorem hd_act2 {P : Program} {M : Nat → Prop} {Q : Exit → Act → World → Prop} {l : List Oper} {n fuel : Nat} {listed : Array Bool} {a : Act} {W : World} (i j : Nat) {o p : Oper} (ho : l[i]? = some o) (hp : l[j]? = some p)
    (hok : (Region.ready .any l.toArray listed == [i, j] && decide (0 < fuel) && decide (i < n) && decide (j < n)) = true) (h1 : goAt P M Q l.toArray o a W (fun a' w' => Heads P M Q l n (fuel - 1) (listed.setIfInBounds i true) a' w'))
    (h2 : goAt P M Q l.toArray p a W (fun a' w' => Heads P M Q l n (fuel - 1) (listed.setIfInBounds j true) a' w')) : Heads P M Q l n fuel listed a W := by
  simp only [Bool.and_eq_true, beq_iff_eq, decide_eq_true_eq] at hok
  obtain ⟨fuel, rfl⟩ : ∃ f, fuel = f + 1 := ⟨fuel - 1, by omega⟩
  refine ⟨by rw [hok.1.1.1]; simp, fun k hk => ?_⟩
  have hk' : k = i ∨ k = j := by rw [hok.1.1.1] at hk; simpa using hk
  rcases hk' with rfl | rfl
  · exact hd_op ho hok.1.2 h1
  · exact hd_op hp hok.2 h2
theorem info_x : (Try.prog.info? 53).map (fun i => (i.zero, i.size, i.bytes)) = some (some (.agg #[.int .i64 0, .int .i64 0, .int .i64 0, .int .i64 0, .int .u64 0, .int .i64 0, .int .i64 0, .int .i64 0, .int .i64 0, .slice none 0 0, .int .i64 0]), 11, 104) := by kernel_rfl
theorem own_tyA {w : World} {B : Nat} {e : TypeId} {k : Nat} {v : Value} {n : Nat} {xs : List Value} (h : w.ownsRow B e k v n xs) {a : Addr} {n' c : Nat} (hv : v = .slice (some a) n' c) : Ty w a.block e := by
  rcases h.2 with ⟨h1, _⟩ | ⟨g, cap, cur, hg, _, hh, _⟩
  · rw [hv] at h1; cases h1
  · rw [hv] at hg
    cases hg
    exact ⟨cur, hh⟩
theorem Mo.setLine {m : Nat} {U : Nat → Value} {uc : Value} {t : Mp} {w w' : World} (h : Mo m U uc t w) {q : Nat} (hq : q < 8) {B : Nat} {v' : Value} {l' : List It} (hk : Kept (Since w.heap.size) w w') (ho : w'.ownsRow B TX 11 v' l'.length (l'.flatMap It.row)) : Mo m (upd U q v') uc { t with L := upd t.L q l' } (w'.setCell ⟨m, 3 + q, none⟩ v') ∧ Kept (Only m) w (w'.setCell ⟨m, 3 + q, none⟩ v') := by
  have nm : ¬ Since w.heap.size m := not_since h.ob.lt
  have hs : ∀ g, Since w.heap.size g → g < w.heap.size → ∃ T, Ty w g T ∧ T ≠ TX := fun g h1 h2 => absurd h1 (Nat.not_le.2 h2)
  have h1 := h.kept hk nm hs
  have hkb : Kept (Only m) w' (w'.setCell ⟨m, 3 + q, none⟩ v') := (Kept.refl _ _).setO
  have hr : Rt w' v' l' := ⟨Rd.of_own ho, fun a n c hv => own_tyA ho hv⟩
  refine ⟨⟨?_, fun i hi => ?_, h1.row hkb h1.cr⟩, ?_⟩
  · exact Ob.cast (h1.ob.set (3 + q) v') (m_set U uc t q hq v')
  · by_cases hiq : i = q
    · subst hiq
      rw [upd_same]
      show Rt _ v' (upd t.L i l' i)
      rw [upd_same]
      exact h1.row hkb hr
    · rw [upd_other _ _ hiq]
      show Rt _ (U i) (upd t.L q l' i)
      rw [upd_other _ _ hiq]
      exact h1.row hkb (h1.lines i hi)
  · exact (hk.mono fun b hb hh => absurd hh (Nat.not_le.2 hb)).trans hkb
set_option maxRecDepth 100000 in
set_option maxHeartbeats 4000000 in
theorem mpush_no (m : Nat) (U : Nat → Value) (uc : Value) (t : Mp) (N : Nat) (q : Nat) (x : It) (w : World) (h : Mo m U uc t w) (ho : t.ok N) (hN : N ≤ 100000) (hx : x.ok2) (hr : t.room < msum t.L 8 + x.bytes) : Calls Try.prog 41 #[.pointer (some ⟨m, 0, none⟩), .int .i64 q, x.val] w fun e w' => e = .returned (.bool false) ∧ Below w.heap.size w w' := by
  unfold It.val
  have HM := Lib.hid h
  have HO := Lib.hid ho
  have HXO := Lib.hid hx
  clear h ho hx
  go_enter Try.func41, Try.ntmps41
  go_upto_region 1 with fail
  have OX := Lib.hid (Ob.new w #[.int .i64 x.kind, .int .i64 x.src, .int .i64 x.dst, .int .i64 x.prio, .int .u64 x.msg, .int .i64 x.off, .int .i64 x.len, .int .i64 x.total, .int .i64 x.num, .slice x.da x.dn x.dc, .int .i64 x.path] TX)
  have HB := Lib.hid ((Below.refl w.heap.size w).alloc (Nat.le_refl _) (.cells #[.int .i64 x.kind, .int .i64 x.src, .int .i64 x.dst, .int .i64 x.prio, .int .u64 x.msg, .int .i64 x.off, .int .i64 x.len, .int .i64 x.total, .int .i64 x.num, .slice x.da x.dn x.dc, .int .i64 x.path] TX))
  have M1 := Lib.hid (HM.out.below HB.out)
  generalize w.alloc (.cells #[.int .i64 x.kind, .int .i64 x.src, .int .i64 x.dst, .int .i64 x.prio, .int .u64 x.msg, .int .i64 x.off, .int .i64 x.len, .int .i64 x.total, .int .i64 x.num, .slice x.da x.dn x.dc, .int .i64 x.path] TX) = w1 at *
  obtain ⟨X, HX⟩ : ∃ X, Hid (w.heap.size = X) := ⟨_, Lib.hid rfl⟩
  rw [HX.out] at OX ⊢
  obtain ⟨lx, cx, fx⟩ := OX.out.blk
  have cx0 : w1.cell? ⟨X, 0, none⟩ = some (.int .i64 x.kind) := cx 0
  have cx1 : w1.cell? ⟨X, 1, none⟩ = some (.int .i64 x.src) := cx 1
  have cx2 : w1.cell? ⟨X, 2, none⟩ = some (.int .i64 x.dst) := cx 2
  have cx3 : w1.cell? ⟨X, 3, none⟩ = some (.int .i64 x.prio) := cx 3
  have cx4 : w1.cell? ⟨X, 4, none⟩ = some (.int .u64 x.msg) := cx 4
  have cx5 : w1.cell? ⟨X, 5, none⟩ = some (.int .i64 x.off) := cx 5
  have cx6 : w1.cell? ⟨X, 6, none⟩ = some (.int .i64 x.len) := cx 6
  have cx7 : w1.cell? ⟨X, 7, none⟩ = some (.int .i64 x.total) := cx 7
  have cx8 : w1.cell? ⟨X, 8, none⟩ = some (.int .i64 x.num) := cx 8
  have cx9 : w1.cell? ⟨X, 9, none⟩ = some (.slice x.da x.dn x.dc) := cx 9
  have cx10 : w1.cell? ⟨X, 10, none⟩ = some (.int .i64 x.path) := cx 10
  clear cx
  have lm := M1.out.ob.lt
  have cm0 : w1.cell? ⟨m, 0, none⟩ = some (.int .i64 t.room) := (M1.out.ob.blk).2.1 0
  have hxb := HXO.out.b
  have hs : 0 ≤ msum t.L 8 ∧ msum t.L 8 ≤ 8 * (100000 * 1000026) := by
    have h1 := msum_b HO.out 8 (by decide)
    have h2 : (N : Int) * 1000026 ≤ 100000 * 1000026 := by omega
    omega
  refine wp_run (M := (fun _ => False)) (stages [([true, false, true, true, false, false, true, true, true, true, false], 1), ([false, false, false, false, false, false, false, false, false, false, false], 4)] [false, false, false, false, false, true, false, false, false, false, true]) (by kernel_rfl) (by kernel_rfl) ?_
  refine run_stage rfl ?_
  simp only [pickAt]
  repeat (go_big_quiet_step (fail))
  refine wpQuiet_nil ?_
  refine run_want rfl ?_
  intro A hA
  go_simp
  refine (mused m U uc t N _ (M1.out.keptF (Kept.drew _ _)) HO.out hN).mono ?_
  rintro e w2 ⟨rfl, hb2⟩
  have K2 : Hid (Kept (fun _ => False) w1 w2) := Lib.hid ((Kept.drew _ w1).trans (Kept.of_below hb2))
  refine hA _ _ (Kept.of_below hb2) ?_
  try simp only [Act.put, List.setIfInBounds_toArray, List.set_cons_zero, List.set_cons_succ]
  clear A hA
  clear hb2
  refine run_stage rfl ?_
  simp only [pickAt]
  repeat (go_big_quiet_step (fail))
  refine wpQuiet_nil ?_
  refine run_want rfl ?_
  intro A hA
  go_simp
  have hms := msize x w2 HXO.out.len
  unfold It.frv at hms
  refine hms.mono ?_
  rintro e w3 ⟨rfl, hb3⟩
  have K3 : Hid (Kept (fun _ => False) w1 w3) := Lib.hid (K2.out.trans (Kept.of_below hb3))
  have B3 := Lib.hid (HB.out.trans (K3.out.below.mono HB.out.size))
  have M3 := Lib.hid (M1.out.keptF K3.out)
  have OX3 := Lib.hid (OX.out.kept K3.out (fun h => h))
  refine hA _ _ (Kept.of_below hb3) ?_
  try simp only [Act.put, List.setIfInBounds_toArray, List.set_cons_zero, List.set_cons_succ]
  clear A hA
  clear hb3 hms
  refine run_last ?_
  simp only [pickAt]
  repeat (go_big_quiet_step (fail))
  refine wpQuiet_nil ?_
  clear lx fx cx0 cx1 cx2 cx3 cx4 cx5 cx6 cx7 cx8 cx9 cx10 lm cm0
  go_wp2_with fail
  go_ret
  exact ⟨rfl, HX.out ▸ B3.out⟩
set_option maxRecDepth 100000 in
set_option maxHeartbeats 4000000 in
theorem mpush_yes (m : Nat) (U : Nat → Value) (uc : Value) (t : Mp) (N : Nat) (q : Nat) (x : It) (w : World) (h : Mo m U uc t w) (ho : t.ok N) (hN : N ≤ 100000) (hx : x.ok2) (hq : q < 8) (hr : msum t.L 8 + x.bytes ≤ t.room) : Calls Try.prog 41 #[.pointer (some ⟨m, 0, none⟩), .int .i64 q, x.val] w fun e w' => e = .returned (.bool true) ∧ MoPost m { t with L := upd t.L q (t.L q ++ [x]) } w w' := by
  unfold It.val
  have HM := Lib.hid h
  have HO := Lib.hid ho
  have HXO := Lib.hid hx
  clear h ho hx
  go_enter Try.func41, Try.ntmps41
  go_upto_region 1 with fail
  have OX := Lib.hid (Ob.new w #[.int .i64 x.kind, .int .i64 x.src, .int .i64 x.dst, .int .i64 x.prio, .int .u64 x.msg, .int .i64 x.off, .int .i64 x.len, .int .i64 x.total, .int .i64 x.num, .slice x.da x.dn x.dc, .int .i64 x.path] TX)
  have HB := Lib.hid ((Below.refl w.heap.size w).alloc (Nat.le_refl _) (.cells #[.int .i64 x.kind, .int .i64 x.src, .int .i64 x.dst, .int .i64 x.prio, .int .u64 x.msg, .int .i64 x.off, .int .i64 x.len, .int .i64 x.total, .int .i64 x.num, .slice x.da x.dn x.dc, .int .i64 x.path] TX))
  have M1 := Lib.hid (HM.out.below HB.out)
  generalize w.alloc (.cells #[.int .i64 x.kind, .int .i64 x.src, .int .i64 x.dst, .int .i64 x.prio, .int .u64 x.msg, .int .i64 x.off, .int .i64 x.len, .int .i64 x.total, .int .i64 x.num, .slice x.da x.dn x.dc, .int .i64 x.path] TX) = w1 at *
  obtain ⟨X, HX⟩ : ∃ X, Hid (w.heap.size = X) := ⟨_, Lib.hid rfl⟩
  rw [HX.out] at OX ⊢
  obtain ⟨lx, cx, fx⟩ := OX.out.blk
  have cx0 : w1.cell? ⟨X, 0, none⟩ = some (.int .i64 x.kind) := cx 0
  have cx1 : w1.cell? ⟨X, 1, none⟩ = some (.int .i64 x.src) := cx 1
  have cx2 : w1.cell? ⟨X, 2, none⟩ = some (.int .i64 x.dst) := cx 2
  have cx3 : w1.cell? ⟨X, 3, none⟩ = some (.int .i64 x.prio) := cx 3
  have cx4 : w1.cell? ⟨X, 4, none⟩ = some (.int .u64 x.msg) := cx 4
  have cx5 : w1.cell? ⟨X, 5, none⟩ = some (.int .i64 x.off) := cx 5
  have cx6 : w1.cell? ⟨X, 6, none⟩ = some (.int .i64 x.len) := cx 6
  have cx7 : w1.cell? ⟨X, 7, none⟩ = some (.int .i64 x.total) := cx 7
  have cx8 : w1.cell? ⟨X, 8, none⟩ = some (.int .i64 x.num) := cx 8
  have cx9 : w1.cell? ⟨X, 9, none⟩ = some (.slice x.da x.dn x.dc) := cx 9
  have cx10 : w1.cell? ⟨X, 10, none⟩ = some (.int .i64 x.path) := cx 10
  clear cx
  have lm := M1.out.ob.lt
  have cm0 : w1.cell? ⟨m, 0, none⟩ = some (.int .i64 t.room) := (M1.out.ob.blk).2.1 0
  have hxb := HXO.out.b
  have hs : 0 ≤ msum t.L 8 ∧ msum t.L 8 ≤ 8 * (100000 * 1000026) := by
    have h1 := msum_b HO.out 8 (by decide)
    have h2 : (N : Int) * 1000026 ≤ 100000 * 1000026 := by omega
    omega
  refine wp_run (M := (fun _ => False)) (stages [([true, false, true, true, false, false, true, true, true, true, false], 1), ([false, false, false, false, false, false, false, false, false, false, false], 4)] [false, false, false, false, false, true, false, false, false, false, true]) (by kernel_rfl) (by kernel_rfl) ?_
  refine run_stage rfl ?_
  simp only [pickAt]
  repeat (go_big_quiet_step (fail))
  refine wpQuiet_nil ?_
  refine run_want rfl ?_
  intro A hA
  go_simp
  refine (mused m U uc t N _ (M1.out.keptF (Kept.drew _ _)) HO.out hN).mono ?_
  rintro e w2 ⟨rfl, hb2⟩
  have K2 : Hid (Kept (fun _ => False) w1 w2) := Lib.hid ((Kept.drew _ w1).trans (Kept.of_below hb2))
  refine hA _ _ (Kept.of_below hb2) ?_
  try simp only [Act.put, List.setIfInBounds_toArray, List.set_cons_zero, List.set_cons_succ]
  clear A hA
  clear hb2
  refine run_stage rfl ?_
  simp only [pickAt]
  repeat (go_big_quiet_step (fail))
  refine wpQuiet_nil ?_
  refine run_want rfl ?_
  intro A hA
  go_simp
  have hms := msize x w2 HXO.out.len
  unfold It.frv at hms
  refine hms.mono ?_
  rintro e w3 ⟨rfl, hb3⟩
  have K3 : Hid (Kept (fun _ => False) w1 w3) := Lib.hid (K2.out.trans (Kept.of_below hb3))
  have B3 := Lib.hid (HB.out.trans (K3.out.below.mono HB.out.size))
  have M3 := Lib.hid (M1.out.keptF K3.out)
  have OX3 := Lib.hid (OX.out.kept K3.out (fun h => h))
  refine hA _ _ (Kept.of_below hb3) ?_
  try simp only [Act.put, List.setIfInBounds_toArray, List.set_cons_zero, List.set_cons_succ]
  clear A hA
  clear hb3 hms
  refine run_last ?_
  simp only [pickAt]
  repeat (go_big_quiet_step (fail))
  refine wpQuiet_nil ?_
  clear lx fx cx0 cx1 cx2 cx3 cx4 cx5 cx6 cx7 cx8 cx9 cx10 lm cm0
  have lm := M3.out.ob.lt
  have fm := (M3.out.ob.blk).2.2
  obtain ⟨a, c, hv, hlc, hcm⟩ := (M3.out.lines q hq).form
  have cl : w3.cell? ⟨m, 3 + q, none⟩ = some (.slice a (t.L q).length c) := by rw [M3.out.line hq, hv]
  have HV := Lib.hid hv
  obtain ⟨lx, cx, fx⟩ := OX3.out.blk
  have cx0 : w3.cell? ⟨X, 0, none⟩ = some (.int .i64 x.kind) := cx 0
  have cx1 : w3.cell? ⟨X, 1, none⟩ = some (.int .i64 x.src) := cx 1
  have cx2 : w3.cell? ⟨X, 2, none⟩ = some (.int .i64 x.dst) := cx 2
  have cx3 : w3.cell? ⟨X, 3, none⟩ = some (.int .i64 x.prio) := cx 3
  have cx4 : w3.cell? ⟨X, 4, none⟩ = some (.int .u64 x.msg) := cx 4
  have cx5 : w3.cell? ⟨X, 5, none⟩ = some (.int .i64 x.off) := cx 5
  have cx6 : w3.cell? ⟨X, 6, none⟩ = some (.int .i64 x.len) := cx 6
  have cx7 : w3.cell? ⟨X, 7, none⟩ = some (.int .i64 x.total) := cx 7
  have cx8 : w3.cell? ⟨X, 8, none⟩ = some (.int .i64 x.num) := cx 8
  have cx9 : w3.cell? ⟨X, 9, none⟩ = some (.slice x.da x.dn x.dc) := cx 9
  have cx10 : w3.cell? ⟨X, 10, none⟩ = some (.int .i64 x.path) := cx 10
  clear cx
  have hll := HO.out.len q hq
  clear hv
  go_wp2_with fail
  have nm : ¬ Since w3.heap.size m := not_since lm
  have nX : ¬ Since w3.heap.size X := not_since lx
  refine wp_heads (M := (Since w3.heap.size)) 16 (by kernel_rfl) (by kernel_rfl) ?_
  refine hd_quiet [true, true, false, true, true, true, true, true, true, false, true, false, false, true, true, false, false] (by kernel_rfl) ?_
  simp only [pickAt]
  repeat (go_big_quiet_step (fail))
  refine wpQuiet_nil ?_
  have hrdK : ∀ W, Kept (Since w3.heap.size) w3 W → Rd W 11 (.slice a (t.L q).length c) (t.L q).length ((t.L q).flatMap It.row) := fun W hK => by
    rw [← HV.out]
    exact (M3.out.lines q hq).rd.kept hK fun a n c hv hh => by
      obtain ⟨cs, h2⟩ := (M3.out.lines q hq).ty a n c hv
      exact absurd hh (Nat.not_le.2 (heap_lt h2))
  refine hd_act2 2 11 rfl rfl (by kernel_rfl) ?_ ?_
  · refine run_want rfl ?_
    intro A hA
    go_simp
    have E2 := Lib.hid (World.ownsRow_made (base := w3.heap.size) (e := TX) (size := 11) w3.drew #[] 0 (by first | omega | (simp; done) | exact Nat.le_refl _) (by decide) rfl)
    have K2' : Hid (Kept (Since w3.heap.size) w3 (w3.drew.alloc (.cells #[] TX))) := Lib.hid (((Kept.refl _ _).drewR).alloc _)
    refine hA _ _ ((Kept.refl _ _).alloc _) ?_
    try simp only [Act.put, List.setIfInBounds_toArray, List.set_cons_zero, List.set_cons_succ]
    clear A hA
    refine hd_act2 9 11 rfl rfl (by kernel_rfl) ?_ ?_
    · refine run_want rfl ?_
      intro A hA
      have hrd := hrdK _ K2'.out
      refine wp_appAt (.tmp 20) (.tmp 26) 57 (by rfl) info_x Try.underlying57 rfl (by decide) E2.out hrd (by rfl) (by rfl) (one_itrows _) (by omega) K2'.out.size ?_
      intro v9 w9 ho9 hg9 hb9
      rw [List.nil_append, Nat.zero_add] at ho9
      obtain ⟨a9, c9, rfl, _, _⟩ := (Rd.of_own ho9).form
      have G9 := Kept.of_grown (M := Since w3.heap.size) hg9 fun y hy => (E2.out.lt y hy).1
      have K9 := Lib.hid (K2'.out.trans G9)
      have O9 := Lib.hid ho9
      refine hA _ _ (G9) ?_
      try simp only [Act.put, List.setIfInBounds_toArray, List.set_cons_zero, List.set_cons_succ]
      clear A hA
      clear ho9 hg9 hb9 G9 hrd
      refine hd_act 11 rfl (by kernel_rfl) ?_
      refine run_want rfl ?_
      intro A hA
      go_simp
      have R11 := Lib.hid (Rd.one (k := 11) w9 #[.int .i64 x.kind, .int .i64 x.src, .int .i64 x.dst, .int .i64 x.prio, .int .u64 x.msg, .int .i64 x.off, .int .i64 x.len, .int .i64 x.total, .int .i64 x.num, .slice x.da x.dn x.dc, .int .i64 x.path] TX rfl)
      have K11 := Lib.hid (K9.out.alloc (.cells #[.int .i64 x.kind, .int .i64 x.src, .int .i64 x.dst, .int .i64 x.prio, .int .u64 x.msg, .int .i64 x.off, .int .i64 x.len, .int .i64 x.total, .int .i64 x.num, .slice x.da x.dn x.dc, .int .i64 x.path] TX))
      have O11 := Lib.hid (own_kept O9.out ((Kept.refl (fun _ => False) w9).alloc (.cells #[.int .i64 x.kind, .int .i64 x.src, .int .i64 x.dst, .int .i64 x.prio, .int .u64 x.msg, .int .i64 x.off, .int .i64 x.len, .int .i64 x.total, .int .i64 x.num, .slice x.da x.dn x.dc, .int .i64 x.path] TX)) (fun _ _ h => h))
      refine hA _ _ ((Kept.refl _ _).alloc _) ?_
      try simp only [Act.put, List.setIfInBounds_toArray, List.set_cons_zero, List.set_cons_succ]
      clear A hA
      refine hd_act 12 rfl (by kernel_rfl) ?_
      refine run_want rfl ?_
      intro A hA
      refine wp_appAt (.tmp 27) (.tmp 29) 57 (by rfl) info_x Try.underlying57 rfl (by decide) O11.out R11.out (by rfl) (by rfl) (by simp [Value.oneCell']) (by omega) K11.out.size ?_
      intro v12 w12 ho12 hg12 hb12
      obtain ⟨a12, c12, rfl, _, _⟩ := (Rd.of_own ho12).form
      have G12 := Kept.of_grown (M := Since w3.heap.size) hg12 fun y hy => (O11.out.lt y hy).1
      have K12 := Lib.hid (K11.out.trans G12)
      have O12 : Hid (w12.ownsRow w3.heap.size TX 11 (.slice a12 ((t.L q).length + 1) c12) (t.L q ++ [x]).length ((t.L q ++ [x]).flatMap It.row)) := Lib.hid (by simpa [It.row] using ho12)
      have hlb : m < w12.heap.size := Nat.lt_of_lt_of_le lm K12.out.size
      have hfb : ∀ i, w12.frozen? ⟨m, i, none⟩ = false := fun i => (K12.out.frozen m i lm nm).trans (fm i)
      have hcb : w12.cell? ⟨m, 3 + q, none⟩ = some (.slice a (t.L q).length c) := (K12.out.cell m (3 + q) lm nm).trans cl
      refine hA _ _ (G12) ?_
      try simp only [Act.put, List.setIfInBounds_toArray, List.set_cons_zero, List.set_cons_succ]
      clear A hA
      clear ho12 hg12 hb12 G12
      refine hd_quiet [false, false, false, false, false, false, false, false, false, false, false, false, false, false, false, true, false] (by kernel_rfl) ?_
      simp only [pickAt]
      repeat (go_big_quiet_step (fail))
      refine wpQuiet_nil ?_
      refine hd_tail rfl (by kernel_rfl) ?_
      simp only [List.drop_succ_cons, List.drop_zero]
      go_wp2
      refine NoPanic.normal ?_
      go_wp2
      go_ret
      obtain ⟨r1, r2⟩ := M3.out.setLine hq K12.out O12.out
      exact ⟨rfl, _, _, r1, (Kept.of_below B3.out).trans r2⟩
    · refine run_want rfl ?_
      intro A hA
      go_simp
      have R11 : Hid (Rd ((w3.drew.alloc (.cells #[] TX)).alloc (.cells #[.int .i64 x.kind, .int .i64 x.src, .int .i64 x.dst, .int .i64 x.prio, .int .u64 x.msg, .int .i64 x.off, .int .i64 x.len, .int .i64 x.total, .int .i64 x.num, .slice x.da x.dn x.dc, .int .i64 x.path] TX)) 11 (.slice (some ⟨w3.heap.size + 1, 0, none⟩) 1 1) 1 [.int .i64 x.kind, .int .i64 x.src, .int .i64 x.dst, .int .i64 x.prio, .int .u64 x.msg, .int .i64 x.off, .int .i64 x.len, .int .i64 x.total, .int .i64 x.num, .slice x.da x.dn x.dc, .int .i64 x.path]) := Lib.hid (by
        have h0 := Rd.one (k := 11) (w3.drew.alloc (.cells #[] TX)) #[.int .i64 x.kind, .int .i64 x.src, .int .i64 x.dst, .int .i64 x.prio, .int .u64 x.msg, .int .i64 x.off, .int .i64 x.len, .int .i64 x.total, .int .i64 x.num, .slice x.da x.dn x.dc, .int .i64 x.path] TX rfl
        rw [World.size_alloc] at h0
        exact h0)
      have K11 := Lib.hid (K2'.out.alloc (.cells #[.int .i64 x.kind, .int .i64 x.src, .int .i64 x.dst, .int .i64 x.prio, .int .u64 x.msg, .int .i64 x.off, .int .i64 x.len, .int .i64 x.total, .int .i64 x.num, .slice x.da x.dn x.dc, .int .i64 x.path] TX))
      have E11 := Lib.hid (own_kept E2.out ((Kept.refl (fun _ => False) _).alloc (.cells #[.int .i64 x.kind, .int .i64 x.src, .int .i64 x.dst, .int .i64 x.prio, .int .u64 x.msg, .int .i64 x.off, .int .i64 x.len, .int .i64 x.total, .int .i64 x.num, .slice x.da x.dn x.dc, .int .i64 x.path] TX)) (fun _ _ h => h))
      refine hA _ _ ((Kept.refl _ _).alloc _) ?_
      try simp only [Act.put, List.setIfInBounds_toArray, List.set_cons_zero, List.set_cons_succ]
      clear A hA
      refine hd_act 9 rfl (by kernel_rfl) ?_
      refine run_want rfl ?_
      intro A hA
      have hrd := hrdK _ K11.out
      refine wp_appAt (.tmp 20) (.tmp 26) 57 (by rfl) info_x Try.underlying57 rfl (by decide) E11.out hrd (by rfl) (by rfl) (one_itrows _) (by omega) K11.out.size ?_
      intro v9 w9 ho9 hg9 hb9
      rw [List.nil_append, Nat.zero_add] at ho9
      obtain ⟨a9, c9, rfl, _, _⟩ := (Rd.of_own ho9).form
      have G9 := Kept.of_grown (M := Since w3.heap.size) hg9 fun y hy => (E11.out.lt y hy).1
      have K9 := Lib.hid (K11.out.trans G9)
      have O9 := Lib.hid ho9
      have R9 := Lib.hid (R11.out.kept (M := Lm (.slice (some ⟨w3.drew.heap.size, 0, none⟩) 0 0)) (Kept.of_grown hg9 fun y hy => hy) (fun a n c hv hh => by
        cases hv
        have h1 : w3.heap.size = w3.heap.size + 1 := Option.some.inj hh
        omega))
      refine hA _ _ (G9) ?_
      try simp only [Act.put, List.setIfInBounds_toArray, List.set_cons_zero, List.set_cons_succ]
      clear A hA
      clear ho9 hg9 hb9 G9 hrd
      refine hd_act 12 rfl (by kernel_rfl) ?_
      refine run_want rfl ?_
      intro A hA
      refine wp_appAt (.tmp 27) (.tmp 29) 57 (by rfl) info_x Try.underlying57 rfl (by decide) O9.out R9.out (by rfl) (by rfl) (by simp [Value.oneCell']) (by omega) K9.out.size ?_
      intro v12 w12 ho12 hg12 hb12
      obtain ⟨a12, c12, rfl, _, _⟩ := (Rd.of_own ho12).form
      have G12 := Kept.of_grown (M := Since w3.heap.size) hg12 fun y hy => (O9.out.lt y hy).1
      have K12 := Lib.hid (K9.out.trans G12)
      have O12 : Hid (w12.ownsRow w3.heap.size TX 11 (.slice a12 ((t.L q).length + 1) c12) (t.L q ++ [x]).length ((t.L q ++ [x]).flatMap It.row)) := Lib.hid (by simpa [It.row] using ho12)
      have hlb : m < w12.heap.size := Nat.lt_of_lt_of_le lm K12.out.size
      have hfb : ∀ i, w12.frozen? ⟨m, i, none⟩ = false := fun i => (K12.out.frozen m i lm nm).trans (fm i)
      have hcb : w12.cell? ⟨m, 3 + q, none⟩ = some (.slice a (t.L q).length c) := (K12.out.cell m (3 + q) lm nm).trans cl
      refine hA _ _ (G12) ?_
      try simp only [Act.put, List.setIfInBounds_toArray, List.set_cons_zero, List.set_cons_succ]
      clear A hA
      clear ho12 hg12 hb12 G12
      refine hd_quiet [false, false, false, false, false, false, false, false, false, false, false, false, false, false, false, true, false] (by kernel_rfl) ?_
      simp only [pickAt]
      repeat (go_big_quiet_step (fail))
      refine wpQuiet_nil ?_
      refine hd_tail rfl (by kernel_rfl) ?_
      simp only [List.drop_succ_cons, List.drop_zero]
      go_wp2
      refine NoPanic.normal ?_
      go_wp2
      go_ret
      obtain ⟨r1, r2⟩ := M3.out.setLine hq K12.out O12.out
      exact ⟨rfl, _, _, r1, (Kept.of_below B3.out).trans r2⟩
  · refine run_want rfl ?_
    intro A hA
    go_simp
    have R11 := Lib.hid (Rd.one (k := 11) w3.drew #[.int .i64 x.kind, .int .i64 x.src, .int .i64 x.dst, .int .i64 x.prio, .int .u64 x.msg, .int .i64 x.off, .int .i64 x.len, .int .i64 x.total, .int .i64 x.num, .slice x.da x.dn x.dc, .int .i64 x.path] TX rfl)
    have K11 : Hid (Kept (Since w3.heap.size) w3 (w3.drew.alloc (.cells #[.int .i64 x.kind, .int .i64 x.src, .int .i64 x.dst, .int .i64 x.prio, .int .u64 x.msg, .int .i64 x.off, .int .i64 x.len, .int .i64 x.total, .int .i64 x.num, .slice x.da x.dn x.dc, .int .i64 x.path] TX))) := Lib.hid (((Kept.refl _ _).drewR).alloc _)
    refine hA _ _ ((Kept.refl _ _).alloc _) ?_
    try simp only [Act.put, List.setIfInBounds_toArray, List.set_cons_zero, List.set_cons_succ]
    clear A hA
    refine hd_act 2 rfl (by kernel_rfl) ?_
    refine run_want rfl ?_
    intro A hA
    go_simp
    have E2 : Hid (((w3.drew.alloc (.cells #[.int .i64 x.kind, .int .i64 x.src, .int .i64 x.dst, .int .i64 x.prio, .int .u64 x.msg, .int .i64 x.off, .int .i64 x.len, .int .i64 x.total, .int .i64 x.num, .slice x.da x.dn x.dc, .int .i64 x.path] TX)).alloc (.cells #[] TX)).ownsRow w3.heap.size TX 11 (.slice (some ⟨w3.heap.size + 1, 0, none⟩) 0 0) 0 []) := Lib.hid (by
      have h0 := World.ownsRow_made (base := w3.heap.size) (e := TX) (size := 11) (w3.drew.alloc (.cells #[.int .i64 x.kind, .int .i64 x.src, .int .i64 x.dst, .int .i64 x.prio, .int .u64 x.msg, .int .i64 x.off, .int .i64 x.len, .int .i64 x.total, .int .i64 x.num, .slice x.da x.dn x.dc, .int .i64 x.path] TX)) #[] 0 (by rw [World.size_alloc]; exact Nat.le_succ _) (by decide) rfl
      rw [World.size_alloc] at h0
      exact h0)
    have R2 := Lib.hid (R11.out.kept ((Kept.refl (fun _ => False) _).alloc (.cells #[] TX)) (fun _ _ _ _ h => h))
    have K2' := Lib.hid (K11.out.alloc (.cells #[] TX))
    refine hA _ _ ((Kept.refl _ _).alloc _) ?_
    try simp only [Act.put, List.setIfInBounds_toArray, List.set_cons_zero, List.set_cons_succ]
    clear A hA
    refine hd_act 9 rfl (by kernel_rfl) ?_
    refine run_want rfl ?_
    intro A hA
    have hrd := hrdK _ K2'.out
    refine wp_appAt (.tmp 20) (.tmp 26) 57 (by rfl) info_x Try.underlying57 rfl (by decide) E2.out hrd (by rfl) (by rfl) (one_itrows _) (by omega) K2'.out.size ?_
    intro v9 w9 ho9 hg9 hb9
    rw [List.nil_append, Nat.zero_add] at ho9
    obtain ⟨a9, c9, rfl, _, _⟩ := (Rd.of_own ho9).form
    have G9 := Kept.of_grown (M := Since w3.heap.size) hg9 fun y hy => (E2.out.lt y hy).1
    have K9 := Lib.hid (K2'.out.trans G9)
    have O9 := Lib.hid ho9
    have R9 := Lib.hid (R2.out.kept (M := Lm (.slice (some ⟨w3.heap.size + 1, 0, none⟩) 0 0)) (Kept.of_grown hg9 fun y hy => hy) (fun a n c hv hh => by
      cases hv
      have h1 : w3.heap.size + 1 = w3.heap.size := Option.some.inj hh
      omega))
    refine hA _ _ (G9) ?_
    try simp only [Act.put, List.setIfInBounds_toArray, List.set_cons_zero, List.set_cons_succ]
    clear A hA
    clear ho9 hg9 hb9 G9 hrd
    refine hd_act 12 rfl (by kernel_rfl) ?_
    refine run_want rfl ?_
    intro A hA
    refine wp_appAt (.tmp 27) (.tmp 29) 57 (by rfl) info_x Try.underlying57 rfl (by decide) O9.out R9.out (by rfl) (by rfl) (by simp [Value.oneCell']) (by omega) K9.out.size ?_
    intro v12 w12 ho12 hg12 hb12
    obtain ⟨a12, c12, rfl, _, _⟩ := (Rd.of_own ho12).form
    have G12 := Kept.of_grown (M := Since w3.heap.size) hg12 fun y hy => (O9.out.lt y hy).1
    have K12 := Lib.hid (K9.out.trans G12)
    have O12 : Hid (w12.ownsRow w3.heap.size TX 11 (.slice a12 ((t.L q).length + 1) c12) (t.L q ++ [x]).length ((t.L q ++ [x]).flatMap It.row)) := Lib.hid (by simpa [It.row] using ho12)
    have hlb : m < w12.heap.size := Nat.lt_of_lt_of_le lm K12.out.size
    have hfb : ∀ i, w12.frozen? ⟨m, i, none⟩ = false := fun i => (K12.out.frozen m i lm nm).trans (fm i)
    have hcb : w12.cell? ⟨m, 3 + q, none⟩ = some (.slice a (t.L q).length c) := (K12.out.cell m (3 + q) lm nm).trans cl
    refine hA _ _ (G12) ?_
    try simp only [Act.put, List.setIfInBounds_toArray, List.set_cons_zero, List.set_cons_succ]
    clear A hA
    clear ho12 hg12 hb12 G12
    refine hd_quiet [false, false, false, false, false, false, false, false, false, false, false, false, false, false, false, true, false] (by kernel_rfl) ?_
    simp only [pickAt]
    repeat (go_big_quiet_step (fail))
    refine wpQuiet_nil ?_
    refine hd_tail rfl (by kernel_rfl) ?_
    simp only [List.drop_succ_cons, List.drop_zero]
    go_wp2
    refine NoPanic.normal ?_
    go_wp2
    go_ret
    obtain ⟨r1, r2⟩ := M3.out.setLine hq K12.out O12.out
    exact ⟨rfl, _, _, r1, (Kept.of_below B3.out).trans r2⟩
end Go.Proofs.Ythgkminjhpaakaa
