/- The document's port (chapter 13): Put. -/
import Derived.Test.YthgkminjhpaakaaPoRc
namespace Go.Proofs.Ythgkminjhpaakaa
open Go.RowKit

theorem Mo.setCred {m : Nat} {U : Nat → Value} {uc : Value} {t : Mp} {w w' : World} (h : Mo m U uc t w) {B : Nat} {v' : Value} {l' : List It} (hk : Kept (Since w.heap.size) w w') (ho : w'.ownsRow B TX 11 v' l'.length (l'.flatMap It.row)) : Mo m U v' { t with C := l' } (w'.setCell ⟨m, 11, none⟩ v') ∧ Kept (Only m) w (w'.setCell ⟨m, 11, none⟩ v') := by
  have nm : ¬ Since w.heap.size m := not_since h.ob.lt
  have hs : ∀ g, Since w.heap.size g → g < w.heap.size → ∃ T, Ty w g T ∧ T ≠ TX := fun g h1 h2 => absurd h1 (Nat.not_le.2 h2)
  have h1 := h.kept hk nm hs
  have hkb : Kept (Only m) w' (w'.setCell ⟨m, 11, none⟩ v') := (Kept.refl _ _).setO
  have hr : Rt w' v' l' := ⟨Rd.of_own ho, fun a n c hv => own_tyA ho hv⟩
  exact ⟨⟨h1.ob.set 11 v', fun i hi => h1.row hkb (h1.lines i hi), h1.row hkb hr⟩, (hk.mono fun b hb hh => absurd hh (Nat.not_le.2 hb)).trans hkb⟩
set_option maxRecDepth 100000 in
set_option maxHeartbeats 4000000 in
theorem mput_cfull (m : Nat) (U : Nat → Value) (uc : Value) (t : Mp) (x : It) (w : World) (h : Mo m U uc t w) (hk : (x.kind == 11) = true) (hc : decide (t.most ≤ (t.C.length : Int)) = true) : Calls Try.prog 19 #[.pointer (some ⟨m, 0, none⟩), x.val] w fun e w' => e = .returned (.int .i64 3) ∧ Below w.heap.size w w' := by
  unfold It.val
  have HM := Lib.hid h
  clear h
  go_enter Try.func19, Try.ntmps19
  go_upto_region 1 with fail
  have OX := Lib.hid (Ob.new w #[.int .i64 x.kind, .int .i64 x.src, .int .i64 x.dst, .int .i64 x.prio, .int .u64 x.msg, .int .i64 x.off, .int .i64 x.len, .int .i64 x.total, .int .i64 x.num, .slice x.da x.dn x.dc, .int .i64 x.path] TX)
  have HB := Lib.hid ((Below.refl w.heap.size w).alloc (Nat.le_refl _) (.cells #[.int .i64 x.kind, .int .i64 x.src, .int .i64 x.dst, .int .i64 x.prio, .int .u64 x.msg, .int .i64 x.off, .int .i64 x.len, .int .i64 x.total, .int .i64 x.num, .slice x.da x.dn x.dc, .int .i64 x.path] TX))
  have M1 := Lib.hid (HM.out.below HB.out)
  generalize w.alloc (.cells #[.int .i64 x.kind, .int .i64 x.src, .int .i64 x.dst, .int .i64 x.prio, .int .u64 x.msg, .int .i64 x.off, .int .i64 x.len, .int .i64 x.total, .int .i64 x.num, .slice x.da x.dn x.dc, .int .i64 x.path] TX) = w1 at *
  obtain ⟨X, HX⟩ : ∃ X, Hid (w.heap.size = X) := ⟨_, Lib.hid rfl⟩
  rw [HX.out] at OX ⊢
  obtain ⟨lx, cx, fx⟩ := OX.out.blk
  have cx0 : w1.cell? ⟨X, 0, none⟩ = some (.int .i64 x.kind) := cx 0
  have cx1 : w1.cell? ⟨X, 1, none⟩ = some (.int .i64 x.src) := cx 1
  have cx2 : w1.cell? ⟨X, 2, none⟩ = some (.int .i64 x.dst) := cx 2
  have cx3 : w1.cell? ⟨X, 3, none⟩ = some (.int .i64 x.prio) := cx 3
  have cx4 : w1.cell? ⟨X, 4, none⟩ = some (.int .u64 x.msg) := cx 4
  have cx5 : w1.cell? ⟨X, 5, none⟩ = some (.int .i64 x.off) := cx 5
  have cx6 : w1.cell? ⟨X, 6, none⟩ = some (.int .i64 x.len) := cx 6
  have cx7 : w1.cell? ⟨X, 7, none⟩ = some (.int .i64 x.total) := cx 7
  have cx8 : w1.cell? ⟨X, 8, none⟩ = some (.int .i64 x.num) := cx 8
  have cx9 : w1.cell? ⟨X, 9, none⟩ = some (.slice x.da x.dn x.dc) := cx 9
  have cx10 : w1.cell? ⟨X, 10, none⟩ = some (.int .i64 x.path) := cx 10
  clear cx
  have lm := M1.out.ob.lt
  have fm := (M1.out.ob.blk).2.2
  have cm1 : w1.cell? ⟨m, 1, none⟩ = some (.int .i64 t.most) := (M1.out.ob.blk).2.1 1
  have cm2 : w1.cell? ⟨m, 2, none⟩ = some (.bool t.trim) := (M1.out.ob.blk).2.1 2
  obtain ⟨a, c, hv, hlc, hcm⟩ := M1.out.cr.form
  have HV := Lib.hid hv
  have cl : w1.cell? ⟨m, 11, none⟩ = some (.slice a t.C.length c) := by rw [← hv]; exact (M1.out.ob.blk).2.1 11
  clear hv
  go_wp2_with fail
  go_quiet (fail)
  go_wp2_with fail
  go_ret
  exact ⟨rfl, below_dn (HX.out ▸ HB.out)⟩
set_option maxRecDepth 100000 in
set_option maxHeartbeats 4000000 in
theorem mput_cred (m : Nat) (U : Nat → Value) (uc : Value) (t : Mp) (x : It) (w : World) (h : Mo m U uc t w) (hk : (x.kind == 11) = true) (hc : decide (t.most ≤ (t.C.length : Int)) = false) (hl : t.C.length ≤ 100000) : Calls Try.prog 19 #[.pointer (some ⟨m, 0, none⟩), x.val] w fun e w' => e = .returned (.int .i64 1) ∧ MoPost m { t with C := t.C ++ [x] } w w' := by
  unfold It.val
  have HM := Lib.hid h
  clear h
  go_enter Try.func19, Try.ntmps19
  go_upto_region 1 with fail
  have OX := Lib.hid (Ob.new w #[.int .i64 x.kind, .int .i64 x.src, .int .i64 x.dst, .int .i64 x.prio, .int .u64 x.msg, .int .i64 x.off, .int .i64 x.len, .int .i64 x.total, .int .i64 x.num, .slice x.da x.dn x.dc, .int .i64 x.path] TX)
  have HB := Lib.hid ((Below.refl w.heap.size w).alloc (Nat.le_refl _) (.cells #[.int .i64 x.kind, .int .i64 x.src, .int .i64 x.dst, .int .i64 x.prio, .int .u64 x.msg, .int .i64 x.off, .int .i64 x.len, .int .i64 x.total, .int .i64 x.num, .slice x.da x.dn x.dc, .int .i64 x.path] TX))
  have M1 := Lib.hid (HM.out.below HB.out)
  generalize w.alloc (.cells #[.int .i64 x.kind, .int .i64 x.src, .int .i64 x.dst, .int .i64 x.prio, .int .u64 x.msg, .int .i64 x.off, .int .i64 x.len, .int .i64 x.total, .int .i64 x.num, .slice x.da x.dn x.dc, .int .i64 x.path] TX) = w1 at *
  obtain ⟨X, HX⟩ : ∃ X, Hid (w.heap.size = X) := ⟨_, Lib.hid rfl⟩
  rw [HX.out] at OX ⊢
  obtain ⟨lx, cx, fx⟩ := OX.out.blk
  have cx0 : w1.cell? ⟨X, 0, none⟩ = some (.int .i64 x.kind) := cx 0
  have cx1 : w1.cell? ⟨X, 1, none⟩ = some (.int .i64 x.src) := cx 1
  have cx2 : w1.cell? ⟨X, 2, none⟩ = some (.int .i64 x.dst) := cx 2
  have cx3 : w1.cell? ⟨X, 3, none⟩ = some (.int .i64 x.prio) := cx 3
  have cx4 : w1.cell? ⟨X, 4, none⟩ = some (.int .u64 x.msg) := cx 4
  have cx5 : w1.cell? ⟨X, 5, none⟩ = some (.int .i64 x.off) := cx 5
  have cx6 : w1.cell? ⟨X, 6, none⟩ = some (.int .i64 x.len) := cx 6
  have cx7 : w1.cell? ⟨X, 7, none⟩ = some (.int .i64 x.total) := cx 7
  have cx8 : w1.cell? ⟨X, 8, none⟩ = some (.int .i64 x.num) := cx 8
  have cx9 : w1.cell? ⟨X, 9, none⟩ = some (.slice x.da x.dn x.dc) := cx 9
  have cx10 : w1.cell? ⟨X, 10, none⟩ = some (.int .i64 x.path) := cx 10
  clear cx
  have lm := M1.out.ob.lt
  have fm := (M1.out.ob.blk).2.2
  have cm1 : w1.cell? ⟨m, 1, none⟩ = some (.int .i64 t.most) := (M1.out.ob.blk).2.1 1
  have cm2 : w1.cell? ⟨m, 2, none⟩ = some (.bool t.trim) := (M1.out.ob.blk).2.1 2
  obtain ⟨a, c, hv, hlc, hcm⟩ := M1.out.cr.form
  have HV := Lib.hid hv
  have cl : w1.cell? ⟨m, 11, none⟩ = some (.slice a t.C.length c) := by rw [← hv]; exact (M1.out.ob.blk).2.1 11
  clear hv
  go_wp2_with fail
  refine wp_region_quiet_lit (by kernel_rfl) (by kernel_rfl) ?_
  try simp only [List.append]
  repeat (first | go_big_quiet_step (fail) | quiet_step (fail))
  refine wpQuiet_nil ?_
  intro W hW
  have MW : Hid (Mo m U uc t W) := by obtain ⟨n, rfl⟩ := hW; exact Lib.hid (M1.out.keptF (Kept.dn _ _ _))
  have OW : Hid (Ob W X #[.int .i64 x.kind, .int .i64 x.src, .int .i64 x.dst, .int .i64 x.prio, .int .u64 x.msg, .int .i64 x.off, .int .i64 x.len, .int .i64 x.total, .int .i64 x.num, .slice x.da x.dn x.dc, .int .i64 x.path] TX) := by obtain ⟨n, rfl⟩ := hW; exact Lib.hid OX.out.dn
  have BW : Hid (Below w.heap.size w W) := by obtain ⟨n, rfl⟩ := hW; exact Lib.hid (below_dn HB.out)
  clear hW lx fx cx0 cx1 cx2 cx3 cx4 cx5 cx6 cx7 cx8 cx9 cx10 lm fm cm1 cm2 cl
  obtain ⟨lx, cx, fx⟩ := OW.out.blk
  have cx0 : W.cell? ⟨X, 0, none⟩ = some (.int .i64 x.kind) := cx 0
  have cx1 : W.cell? ⟨X, 1, none⟩ = some (.int .i64 x.src) := cx 1
  have cx2 : W.cell? ⟨X, 2, none⟩ = some (.int .i64 x.dst) := cx 2
  have cx3 : W.cell? ⟨X, 3, none⟩ = some (.int .i64 x.prio) := cx 3
  have cx4 : W.cell? ⟨X, 4, none⟩ = some (.int .u64 x.msg) := cx 4
  have cx5 : W.cell? ⟨X, 5, none⟩ = some (.int .i64 x.off) := cx 5
  have cx6 : W.cell? ⟨X, 6, none⟩ = some (.int .i64 x.len) := cx 6
  have cx7 : W.cell? ⟨X, 7, none⟩ = some (.int .i64 x.total) := cx 7
  have cx8 : W.cell? ⟨X, 8, none⟩ = some (.int .i64 x.num) := cx 8
  have cx9 : W.cell? ⟨X, 9, none⟩ = some (.slice x.da x.dn x.dc) := cx 9
  have cx10 : W.cell? ⟨X, 10, none⟩ = some (.int .i64 x.path) := cx 10
  clear cx
  have lm := MW.out.ob.lt
  have fm := (MW.out.ob.blk).2.2
  have cl : W.cell? ⟨m, 11, none⟩ = some (.slice a t.C.length c) := by rw [← HV.out]; exact (MW.out.ob.blk).2.1 11
  go_wp2_with fail
  have nm : ¬ Since W.heap.size m := not_since lm
  have nX : ¬ Since W.heap.size X := not_since lx
  refine wp_heads (M := (Since W.heap.size)) 12 (by kernel_rfl) (by kernel_rfl) ?_
  refine hd_quiet [true, false, true, true, true, true, false, true, false, false, false, false, false] (by kernel_rfl) ?_
  simp only [pickAt]
  repeat (go_big_quiet_step (fail))
  refine wpQuiet_nil ?_
  have hrdK : ∀ W', Kept (Since W.heap.size) W W' → Rd W' 11 (.slice a t.C.length c) t.C.length (t.C.flatMap It.row) := fun _ hK => by
    rw [← HV.out]
    exact MW.out.cr.rd.kept hK fun a n c hv hh => by
      obtain ⟨cs, h2⟩ := MW.out.cr.ty a n c hv
      exact absurd hh (Nat.not_le.2 (heap_lt h2))
  refine hd_act2 1 8 rfl rfl (by kernel_rfl) ?_ ?_
  · refine run_want rfl ?_
    intro A hA
    go_simp
    have E2 := Lib.hid (World.ownsRow_made (base := W.heap.size) (e := TX) (size := 11) W.drew #[] 0 (by first | omega | (simp; done) | exact Nat.le_refl _) (by decide) rfl)
    have K2' : Hid (Kept (Since W.heap.size) W (W.drew.alloc (.cells #[] TX))) := Lib.hid (((Kept.refl _ _).drewR).alloc _)
    refine hA _ _ ((Kept.refl _ _).alloc _) ?_
    try simp only [Act.put, List.setIfInBounds_toArray, List.set_cons_zero, List.set_cons_succ]
    clear A hA
    refine hd_act2 6 8 rfl rfl (by kernel_rfl) ?_ ?_
    · refine run_want rfl ?_
      intro A hA
      have hrd := hrdK _ K2'.out
      refine wp_appAt (.tmp 21) (.tmp 25) 57 (by rfl) info_x Try.underlying57 rfl (by decide) E2.out hrd (by rfl) (by rfl) (one_itrows _) (by omega) K2'.out.size ?_
      intro v9 w9 ho9 hg9 hb9
      rw [List.nil_append, Nat.zero_add] at ho9
      obtain ⟨a9, c9, rfl, _, _⟩ := (Rd.of_own ho9).form
      have G9 := Kept.of_grown (M := Since W.heap.size) hg9 fun y hy => (E2.out.lt y hy).1
      have K9 := Lib.hid (K2'.out.trans G9)
      have O9 := Lib.hid ho9
      refine hA _ _ (G9) ?_
      try simp only [Act.put, List.setIfInBounds_toArray, List.set_cons_zero, List.set_cons_succ]
      clear A hA
      clear ho9 hg9 hb9 G9 hrd
      refine hd_act 8 rfl (by kernel_rfl) ?_
      refine run_want rfl ?_
      intro A hA
      go_simp
      have R11 := Lib.hid (Rd.one (k := 11) w9 #[.int .i64 x.kind, .int .i64 x.src, .int .i64 x.dst, .int .i64 x.prio, .int .u64 x.msg, .int .i64 x.off, .int .i64 x.len, .int .i64 x.total, .int .i64 x.num, .slice x.da x.dn x.dc, .int .i64 x.path] TX rfl)
      have K11 := Lib.hid (K9.out.alloc (.cells #[.int .i64 x.kind, .int .i64 x.src, .int .i64 x.dst, .int .i64 x.prio, .int .u64 x.msg, .int .i64 x.off, .int .i64 x.len, .int .i64 x.total, .int .i64 x.num, .slice x.da x.dn x.dc, .int .i64 x.path] TX))
      have O11 := Lib.hid (own_kept O9.out ((Kept.refl (fun _ => False) w9).alloc (.cells #[.int .i64 x.kind, .int .i64 x.src, .int .i64 x.dst, .int .i64 x.prio, .int .u64 x.msg, .int .i64 x.off, .int .i64 x.len, .int .i64 x.total, .int .i64 x.num, .slice x.da x.dn x.dc, .int .i64 x.path] TX)) (fun _ _ h => h))
      refine hA _ _ ((Kept.refl _ _).alloc _) ?_
      try simp only [Act.put, List.setIfInBounds_toArray, List.set_cons_zero, List.set_cons_succ]
      clear A hA
      refine hd_act 9 rfl (by kernel_rfl) ?_
      refine run_want rfl ?_
      intro A hA
      refine wp_appAt (.tmp 26) (.tmp 28) 57 (by rfl) info_x Try.underlying57 rfl (by decide) O11.out R11.out (by rfl) (by rfl) (by simp [Value.oneCell']) (by omega) K11.out.size ?_
      intro v12 w12 ho12 hg12 hb12
      obtain ⟨a12, c12, rfl, _, _⟩ := (Rd.of_own ho12).form
      have G12 := Kept.of_grown (M := Since W.heap.size) hg12 fun y hy => (O11.out.lt y hy).1
      have K12 := Lib.hid (K11.out.trans G12)
      have O12 : Hid (w12.ownsRow W.heap.size TX 11 (.slice a12 (t.C.length + 1) c12) (t.C ++ [x]).length ((t.C ++ [x]).flatMap It.row)) := Lib.hid (by simpa [It.row] using ho12)
      have hlb : m < w12.heap.size := Nat.lt_of_lt_of_le lm K12.out.size
      have hfb : ∀ i, w12.frozen? ⟨m, i, none⟩ = false := fun i => (K12.out.frozen m i lm nm).trans (fm i)
      have hcb : w12.cell? ⟨m, 11, none⟩ = some (.slice a t.C.length c) := (K12.out.cell m (11) lm nm).trans cl
      refine hA _ _ (G12) ?_
      try simp only [Act.put, List.setIfInBounds_toArray, List.set_cons_zero, List.set_cons_succ]
      clear A hA
      clear ho12 hg12 hb12 G12
      refine hd_quiet [false, false, false, false, false, false, false, false, false, false, true, true, false] (by kernel_rfl) ?_
      simp only [pickAt]
      repeat (go_big_quiet_step (fail))
      refine wpQuiet_nil ?_
      refine hd_tail rfl (by kernel_rfl) ?_
      simp only [List.drop_succ_cons, List.drop_zero]
      go_wp2
      refine NoPanic.normal ?_
      go_wp2
      go_ret
      obtain ⟨r1, r2⟩ := MW.out.setCred K12.out O12.out
      exact ⟨rfl, _, _, r1, (Kept.of_below BW.out).trans r2⟩
    · refine run_want rfl ?_
      intro A hA
      go_simp
      have R11 : Hid (Rd ((W.drew.alloc (.cells #[] TX)).alloc (.cells #[.int .i64 x.kind, .int .i64 x.src, .int .i64 x.dst, .int .i64 x.prio, .int .u64 x.msg, .int .i64 x.off, .int .i64 x.len, .int .i64 x.total, .int .i64 x.num, .slice x.da x.dn x.dc, .int .i64 x.path] TX)) 11 (.slice (some ⟨W.heap.size + 1, 0, none⟩) 1 1) 1 [.int .i64 x.kind, .int .i64 x.src, .int .i64 x.dst, .int .i64 x.prio, .int .u64 x.msg, .int .i64 x.off, .int .i64 x.len, .int .i64 x.total, .int .i64 x.num, .slice x.da x.dn x.dc, .int .i64 x.path]) := Lib.hid (by
        have h0 := Rd.one (k := 11) (W.drew.alloc (.cells #[] TX)) #[.int .i64 x.kind, .int .i64 x.src, .int .i64 x.dst, .int .i64 x.prio, .int .u64 x.msg, .int .i64 x.off, .int .i64 x.len, .int .i64 x.total, .int .i64 x.num, .slice x.da x.dn x.dc, .int .i64 x.path] TX rfl
        rw [World.size_alloc] at h0
        exact h0)
      have K11 := Lib.hid (K2'.out.alloc (.cells #[.int .i64 x.kind, .int .i64 x.src, .int .i64 x.dst, .int .i64 x.prio, .int .u64 x.msg, .int .i64 x.off, .int .i64 x.len, .int .i64 x.total, .int .i64 x.num, .slice x.da x.dn x.dc, .int .i64 x.path] TX))
      have E11 := Lib.hid (own_kept E2.out ((Kept.refl (fun _ => False) _).alloc (.cells #[.int .i64 x.kind, .int .i64 x.src, .int .i64 x.dst, .int .i64 x.prio, .int .u64 x.msg, .int .i64 x.off, .int .i64 x.len, .int .i64 x.total, .int .i64 x.num, .slice x.da x.dn x.dc, .int .i64 x.path] TX)) (fun _ _ h => h))
      refine hA _ _ ((Kept.refl _ _).alloc _) ?_
      try simp only [Act.put, List.setIfInBounds_toArray, List.set_cons_zero, List.set_cons_succ]
      clear A hA
      refine hd_act 6 rfl (by kernel_rfl) ?_
      refine run_want rfl ?_
      intro A hA
      have hrd := hrdK _ K11.out
      refine wp_appAt (.tmp 21) (.tmp 25) 57 (by rfl) info_x Try.underlying57 rfl (by decide) E11.out hrd (by rfl) (by rfl) (one_itrows _) (by omega) K11.out.size ?_
      intro v9 w9 ho9 hg9 hb9
      rw [List.nil_append, Nat.zero_add] at ho9
      obtain ⟨a9, c9, rfl, _, _⟩ := (Rd.of_own ho9).form
      have G9 := Kept.of_grown (M := Since W.heap.size) hg9 fun y hy => (E11.out.lt y hy).1
      have K9 := Lib.hid (K11.out.trans G9)
      have O9 := Lib.hid ho9
      have R9 := Lib.hid (R11.out.kept (M := Lm (.slice (some ⟨W.drew.heap.size, 0, none⟩) 0 0)) (Kept.of_grown hg9 fun y hy => hy) (fun a n c hv hh => by
        cases hv
        have h1 : W.heap.size = W.heap.size + 1 := Option.some.inj hh
        omega))
      refine hA _ _ (G9) ?_
      try simp only [Act.put, List.setIfInBounds_toArray, List.set_cons_zero, List.set_cons_succ]
      clear A hA
      clear ho9 hg9 hb9 G9 hrd
      refine hd_act 9 rfl (by kernel_rfl) ?_
      refine run_want rfl ?_
      intro A hA
      refine wp_appAt (.tmp 26) (.tmp 28) 57 (by rfl) info_x Try.underlying57 rfl (by decide) O9.out R9.out (by rfl) (by rfl) (by simp [Value.oneCell']) (by omega) K9.out.size ?_
      intro v12 w12 ho12 hg12 hb12
      obtain ⟨a12, c12, rfl, _, _⟩ := (Rd.of_own ho12).form
      have G12 := Kept.of_grown (M := Since W.heap.size) hg12 fun y hy => (O9.out.lt y hy).1
      have K12 := Lib.hid (K9.out.trans G12)
      have O12 : Hid (w12.ownsRow W.heap.size TX 11 (.slice a12 (t.C.length + 1) c12) (t.C ++ [x]).length ((t.C ++ [x]).flatMap It.row)) := Lib.hid (by simpa [It.row] using ho12)
      have hlb : m < w12.heap.size := Nat.lt_of_lt_of_le lm K12.out.size
      have hfb : ∀ i, w12.frozen? ⟨m, i, none⟩ = false := fun i => (K12.out.frozen m i lm nm).trans (fm i)
      have hcb : w12.cell? ⟨m, 11, none⟩ = some (.slice a t.C.length c) := (K12.out.cell m (11) lm nm).trans cl
      refine hA _ _ (G12) ?_
      try simp only [Act.put, List.setIfInBounds_toArray, List.set_cons_zero, List.set_cons_succ]
      clear A hA
      clear ho12 hg12 hb12 G12
      refine hd_quiet [false, false, false, false, false, false, false, false, false, false, true, true, false] (by kernel_rfl) ?_
      simp only [pickAt]
      repeat (go_big_quiet_step (fail))
      refine wpQuiet_nil ?_
      refine hd_tail rfl (by kernel_rfl) ?_
      simp only [List.drop_succ_cons, List.drop_zero]
      go_wp2
      refine NoPanic.normal ?_
      go_wp2
      go_ret
      obtain ⟨r1, r2⟩ := MW.out.setCred K12.out O12.out
      exact ⟨rfl, _, _, r1, (Kept.of_below BW.out).trans r2⟩
  · refine run_want rfl ?_
    intro A hA
    go_simp
    have R11 := Lib.hid (Rd.one (k := 11) W.drew #[.int .i64 x.kind, .int .i64 x.src, .int .i64 x.dst, .int .i64 x.prio, .int .u64 x.msg, .int .i64 x.off, .int .i64 x.len, .int .i64 x.total, .int .i64 x.num, .slice x.da x.dn x.dc, .int .i64 x.path] TX rfl)
    have K11 : Hid (Kept (Since W.heap.size) W (W.drew.alloc (.cells #[.int .i64 x.kind, .int .i64 x.src, .int .i64 x.dst, .int .i64 x.prio, .int .u64 x.msg, .int .i64 x.off, .int .i64 x.len, .int .i64 x.total, .int .i64 x.num, .slice x.da x.dn x.dc, .int .i64 x.path] TX))) := Lib.hid (((Kept.refl _ _).drewR).alloc _)
    refine hA _ _ ((Kept.refl _ _).alloc _) ?_
    try simp only [Act.put, List.setIfInBounds_toArray, List.set_cons_zero, List.set_cons_succ]
    clear A hA
    refine hd_act 1 rfl (by kernel_rfl) ?_
    refine run_want rfl ?_
    intro A hA
    go_simp
    have E2 : Hid (((W.drew.alloc (.cells #[.int .i64 x.kind, .int .i64 x.src, .int .i64 x.dst, .int .i64 x.prio, .int .u64 x.msg, .int .i64 x.off, .int .i64 x.len, .int .i64 x.total, .int .i64 x.num, .slice x.da x.dn x.dc, .int .i64 x.path] TX)).alloc (.cells #[] TX)).ownsRow W.heap.size TX 11 (.slice (some ⟨W.heap.size + 1, 0, none⟩) 0 0) 0 []) := Lib.hid (by
      have h0 := World.ownsRow_made (base := W.heap.size) (e := TX) (size := 11) (W.drew.alloc (.cells #[.int .i64 x.kind, .int .i64 x.src, .int .i64 x.dst, .int .i64 x.prio, .int .u64 x.msg, .int .i64 x.off, .int .i64 x.len, .int .i64 x.total, .int .i64 x.num, .slice x.da x.dn x.dc, .int .i64 x.path] TX)) #[] 0 (by rw [World.size_alloc]; exact Nat.le_succ _) (by decide) rfl
      rw [World.size_alloc] at h0
      exact h0)
    have R2 := Lib.hid (R11.out.kept ((Kept.refl (fun _ => False) _).alloc (.cells #[] TX)) (fun _ _ _ _ h => h))
    have K2' := Lib.hid (K11.out.alloc (.cells #[] TX))
    refine hA _ _ ((Kept.refl _ _).alloc _) ?_
    try simp only [Act.put, List.setIfInBounds_toArray, List.set_cons_zero, List.set_cons_succ]
    clear A hA
    refine hd_act 6 rfl (by kernel_rfl) ?_
    refine run_want rfl ?_
    intro A hA
    have hrd := hrdK _ K2'.out
    refine wp_appAt (.tmp 21) (.tmp 25) 57 (by rfl) info_x Try.underlying57 rfl (by decide) E2.out hrd (by rfl) (by rfl) (one_itrows _) (by omega) K2'.out.size ?_
    intro v9 w9 ho9 hg9 hb9
    rw [List.nil_append, Nat.zero_add] at ho9
    obtain ⟨a9, c9, rfl, _, _⟩ := (Rd.of_own ho9).form
    have G9 := Kept.of_grown (M := Since W.heap.size) hg9 fun y hy => (E2.out.lt y hy).1
    have K9 := Lib.hid (K2'.out.trans G9)
    have O9 := Lib.hid ho9
    have R9 := Lib.hid (R2.out.kept (M := Lm (.slice (some ⟨W.heap.size + 1, 0, none⟩) 0 0)) (Kept.of_grown hg9 fun y hy => hy) (fun a n c hv hh => by
      cases hv
      have h1 : W.heap.size + 1 = W.heap.size := Option.some.inj hh
      omega))
    refine hA _ _ (G9) ?_
    try simp only [Act.put, List.setIfInBounds_toArray, List.set_cons_zero, List.set_cons_succ]
    clear A hA
    clear ho9 hg9 hb9 G9 hrd
    refine hd_act 9 rfl (by kernel_rfl) ?_
    refine run_want rfl ?_
    intro A hA
    refine wp_appAt (.tmp 26) (.tmp 28) 57 (by rfl) info_x Try.underlying57 rfl (by decide) O9.out R9.out (by rfl) (by rfl) (by simp [Value.oneCell']) (by omega) K9.out.size ?_
    intro v12 w12 ho12 hg12 hb12
    obtain ⟨a12, c12, rfl, _, _⟩ := (Rd.of_own ho12).form
    have G12 := Kept.of_grown (M := Since W.heap.size) hg12 fun y hy => (O9.out.lt y hy).1
    have K12 := Lib.hid (K9.out.trans G12)
    have O12 : Hid (w12.ownsRow W.heap.size TX 11 (.slice a12 (t.C.length + 1) c12) (t.C ++ [x]).length ((t.C ++ [x]).flatMap It.row)) := Lib.hid (by simpa [It.row] using ho12)
    have hlb : m < w12.heap.size := Nat.lt_of_lt_of_le lm K12.out.size
    have hfb : ∀ i, w12.frozen? ⟨m, i, none⟩ = false := fun i => (K12.out.frozen m i lm nm).trans (fm i)
    have hcb : w12.cell? ⟨m, 11, none⟩ = some (.slice a t.C.length c) := (K12.out.cell m (11) lm nm).trans cl
    refine hA _ _ (G12) ?_
    try simp only [Act.put, List.setIfInBounds_toArray, List.set_cons_zero, List.set_cons_succ]
    clear A hA
    clear ho12 hg12 hb12 G12
    refine hd_quiet [false, false, false, false, false, false, false, false, false, false, true, true, false] (by kernel_rfl) ?_
    simp only [pickAt]
    repeat (go_big_quiet_step (fail))
    refine wpQuiet_nil ?_
    refine hd_tail rfl (by kernel_rfl) ?_
    simp only [List.drop_succ_cons, List.drop_zero]
    go_wp2
    refine NoPanic.normal ?_
    go_wp2
    go_ret
    obtain ⟨r1, r2⟩ := MW.out.setCred K12.out O12.out
    exact ⟨rfl, _, _, r1, (Kept.of_below BW.out).trans r2⟩
end Go.Proofs.Ythgkminjhpaakaa
