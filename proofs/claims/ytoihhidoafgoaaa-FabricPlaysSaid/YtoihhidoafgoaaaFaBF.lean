/- The document's fabric (chapter 15): Send. -/
import Derived.Test.YtoihhidoafgoaaaFaBE
namespace Go.Proofs.Ytoihhidoafgoaaa
open Go.RowKit

section
variable {m : Nat} {l : Ml} {s : Ms} {w w' : World} {N : Nat}
set_option maxRecDepth 100000 in
set_option maxHeartbeats 4000000 in
theorem mf_send_no0 (h : Mf m l s w) {k : Int} {x : It} (hk : k < 0 ∨ (0 ≤ k ∧ (s.H : Int) ≤ k)) : Calls Try.prog 21 #[.pointer (some ⟨m, 0, none⟩), .int .i64 k, x.frv, .int .i64 x.path] w fun e w' => e = .returned (.tuple #[.int .i64 0, .int .i64 1]) ∧ Below w.heap.size w w' := by
  have HF := Lib.hid h
  have hh := h.hs.h
  have hk9 : 0 ≤ k → ¬ k < 0 := by omega
  clear h
  unfold It.frv
  rcases hk with hk | ⟨hk, hk2⟩
  all_goals
    have hk8 := hk9
    try replace hk8 := hk9 hk
    clear hk9
    go_enter Try.func21, Try.ntmps21
    go_upto_region 1 with fail
    have OX := Lib.hid (Ob.new w #[.int .i64 x.kind, .int .i64 x.src, .int .i64 x.dst, .int .i64 x.prio, .int .u64 x.msg, .int .i64 x.off, .int .i64 x.len, .int .i64 x.total, .int .i64 x.num, .slice x.da x.dn x.dc] TFr)
    have HB := Lib.hid ((Below.refl w.heap.size w).alloc (Nat.le_refl _) (.cells #[.int .i64 x.kind, .int .i64 x.src, .int .i64 x.dst, .int .i64 x.prio, .int .u64 x.msg, .int .i64 x.off, .int .i64 x.len, .int .i64 x.total, .int .i64 x.num, .slice x.da x.dn x.dc] TFr))
    have F1 := Lib.hid (HF.out.below HB.out)
    generalize w.alloc (.cells #[.int .i64 x.kind, .int .i64 x.src, .int .i64 x.dst, .int .i64 x.prio, .int .u64 x.msg, .int .i64 x.off, .int .i64 x.len, .int .i64 x.total, .int .i64 x.num, .slice x.da x.dn x.dc] TFr) = w1 at *
    obtain ⟨X, HXX⟩ : ∃ X, Hid (w.heap.size = X) := ⟨_, Lib.hid rfl⟩
    rw [HXX.out] at OX ⊢
    obtain ⟨l0, c0, c1, c2, c3⟩ := F1.out.cells
    obtain ⟨n0, n1, n2, n3⟩ := F1.out.net.cells
    clear c1 c2 c3 n2 n3
    refine wp_run (M := (fun _ => False)) (stages [([true, true, true, true, true, true, true, true, true, true, true, true, true, true, true, false, false, false, false, false, false, false, false, false, false, false, false, false, false, false, false, false, false, false, false, false], 15)] [false, false, false, false, false, false, false, false, false, false, false, false, false, false, false, false, true, true, true, true, true, true, true, true, true, true, true, true, true, true, true, true, true, true, true, true]) (by kernel_rfl) (by kernel_rfl) ?_
    refine run_stage rfl ?_
    simp only [pickAt]
    repeat (go_big_quiet_step (fail))
    refine wpQuiet_nil ?_
    refine run_skip rfl ?_
    go_simp
    refine run_last ?_
    simp only [pickAt]
    repeat (go_big_quiet_step (fail))
    refine wpQuiet_nil ?_
    clear l0 c0 n0 n1
    go_wp2_with fail
    go_ret2
    exact ⟨rfl, HB.out.trans (Kept.belowAt (Kept.drew _ _) HB.out.size (fun _ (h : False) => h.elim))⟩
set_option maxRecDepth 100000 in
set_option maxHeartbeats 4000000 in
theorem mf_send_no1 (h : Mf m l s w) {k : Int} {x : It} (hk0 : 0 ≤ k) (hk : k < s.H) (hm : 0 ≤ x.msg) (hdn : x.dn = x.bs.length) (hno : ¬ okF x.fr ∨ (okF x.fr ∧ (s.H : Int) ≤ x.dst) ∨ (okF x.fr ∧ 0 ≤ x.dst ∧ x.dst < s.H ∧ x.dst = k)) : Calls Try.prog 21 #[.pointer (some ⟨m, 0, none⟩), .int .i64 k, x.frv, .int .i64 x.path] w fun e w' => e = .returned (.tuple #[.int .i64 0, .int .i64 1]) ∧ Below w.heap.size w w' := by
  have HF := Lib.hid h
  have hh := h.hs.h
  have HDN := Lib.hid hdn
  have HNO := Lib.hid hno
  have hk8 : ¬ k < 0 := by omega
  have hk7 : ¬ (s.H : Int) ≤ k := by omega
  clear h hdn hno
  unfold It.frv
  go_enter Try.func21, Try.ntmps21
  go_upto_region 1 with fail
  have OX := Lib.hid (Ob.new w #[.int .i64 x.kind, .int .i64 x.src, .int .i64 x.dst, .int .i64 x.prio, .int .u64 x.msg, .int .i64 x.off, .int .i64 x.len, .int .i64 x.total, .int .i64 x.num, .slice x.da x.dn x.dc] TFr)
  have HB := Lib.hid ((Below.refl w.heap.size w).alloc (Nat.le_refl _) (.cells #[.int .i64 x.kind, .int .i64 x.src, .int .i64 x.dst, .int .i64 x.prio, .int .u64 x.msg, .int .i64 x.off, .int .i64 x.len, .int .i64 x.total, .int .i64 x.num, .slice x.da x.dn x.dc] TFr))
  have F1 := Lib.hid (HF.out.below HB.out)
  generalize w.alloc (.cells #[.int .i64 x.kind, .int .i64 x.src, .int .i64 x.dst, .int .i64 x.prio, .int .u64 x.msg, .int .i64 x.off, .int .i64 x.len, .int .i64 x.total, .int .i64 x.num, .slice x.da x.dn x.dc] TFr) = w1 at *
  obtain ⟨X, HXX⟩ : ∃ X, Hid (w.heap.size = X) := ⟨_, Lib.hid rfl⟩
  rw [HXX.out] at OX ⊢
  obtain ⟨lx, cx, fx⟩ := OX.out.blk
  have cx0 : w1.cell? ⟨X, 0, none⟩ = some (.int .i64 x.kind) := cx 0
  have cx1 : w1.cell? ⟨X, 1, none⟩ = some (.int .i64 x.src) := cx 1
  have cx2 : w1.cell? ⟨X, 2, none⟩ = some (.int .i64 x.dst) := cx 2
  have cx3 : w1.cell? ⟨X, 3, none⟩ = some (.int .i64 x.prio) := cx 3
  have cx4 : w1.cell? ⟨X, 4, none⟩ = some (.int .u64 x.msg) := cx 4
  have cx5 : w1.cell? ⟨X, 5, none⟩ = some (.int .i64 x.off) := cx 5
  have cx6 : w1.cell? ⟨X, 6, none⟩ = some (.int .i64 x.len) := cx 6
  have cx7 : w1.cell? ⟨X, 7, none⟩ = some (.int .i64 x.total) := cx 7
  have cx8 : w1.cell? ⟨X, 8, none⟩ = some (.int .i64 x.num) := cx 8
  have cx9 : w1.cell? ⟨X, 9, none⟩ = some (.slice x.da x.dn x.dc) := cx 9
  clear cx
  obtain ⟨l0, c0, c1, c2, c3⟩ := F1.out.cells
  obtain ⟨n0, n1, n2, n3⟩ := F1.out.net.cells
  clear c1 c2 c3 n2 n3
  refine wp_run (M := (fun _ => False)) (stages [([true, true, true, true, true, true, true, true, true, true, true, true, true, true, true, false, false, false, false, false, false, false, false, false, false, false, false, false, false, false, false, false, false, false, false, false], 15)] [false, false, false, false, false, false, false, false, false, false, false, false, false, false, false, false, true, true, true, true, true, true, true, true, true, true, true, true, true, true, true, true, true, true, true, true]) (by kernel_rfl) (by kernel_rfl) ?_
  refine run_stage rfl ?_
  simp only [pickAt]
  repeat (go_big_quiet_step (fail))
  refine wpQuiet_nil ?_
  refine run_want rfl ?_
  intro A hA
  go_simp
  have hck := check_ref x.fr x.da x.dc hm w1.drew
  unfold Fr.val It.fr at hck
  simp only at hck
  rw [← HDN.out] at hck
  refine hck.mono ?_
  rintro e w3 ⟨hc, hb3⟩
  have K3 := Kept.of_below (M := fun _ => False) hb3
  have F3 := Lib.hid ((F1.out.keptF (Kept.drew _ w1)).keptF K3)
  have OX3 := Lib.hid ((OX.out.kept (Kept.drew (fun _ => False) w1) (fun h => h)).kept K3 (fun h => h))
  have HB3 := Lib.hid (HB.out.trans (Kept.belowAt ((Kept.drew (fun _ => False) w1).trans K3) HB.out.size (fun _ (h : False) => h.elim)))
  clear hck lx fx l0 c0 n0 n1 cx0 cx1 cx2 cx3 cx4 cx5 cx6 cx7 cx8 cx9
  obtain ⟨lx, cx, fx⟩ := OX3.out.blk
  have cx0 : w3.cell? ⟨X, 0, none⟩ = some (.int .i64 x.kind) := cx 0
  have cx1 : w3.cell? ⟨X, 1, none⟩ = some (.int .i64 x.src) := cx 1
  have cx2 : w3.cell? ⟨X, 2, none⟩ = some (.int .i64 x.dst) := cx 2
  have cx3 : w3.cell? ⟨X, 3, none⟩ = some (.int .i64 x.prio) := cx 3
  have cx4 : w3.cell? ⟨X, 4, none⟩ = some (.int .u64 x.msg) := cx 4
  have cx5 : w3.cell? ⟨X, 5, none⟩ = some (.int .i64 x.off) := cx 5
  have cx6 : w3.cell? ⟨X, 6, none⟩ = some (.int .i64 x.len) := cx 6
  have cx7 : w3.cell? ⟨X, 7, none⟩ = some (.int .i64 x.total) := cx 7
  have cx8 : w3.cell? ⟨X, 8, none⟩ = some (.int .i64 x.num) := cx 8
  have cx9 : w3.cell? ⟨X, 9, none⟩ = some (.slice x.da x.dn x.dc) := cx 9
  clear cx
  obtain ⟨l0, c0, c1, c2, c3⟩ := F3.out.cells
  obtain ⟨n0, n1, n2, n3⟩ := F3.out.net.cells
  clear c1 c2 c3 n2 n3
  rcases hc with ⟨hok, rfl⟩ | ⟨hn, rfl⟩
  · rcases HNO.out with hn | ⟨_, hn⟩ | ⟨_, hn1, hn2, hn3⟩
    · exact absurd hok hn
    · clear hok
      refine hA _ _ (K3) ?_
      try simp only [Act.put, List.setIfInBounds_toArray, List.set_cons_zero, List.set_cons_succ]
      clear A hA
      clear K3 hb3
      refine run_last ?_
      simp only [pickAt]
      repeat (go_big_quiet_step (fail))
      refine wpQuiet_nil ?_
      go_wp2_with fail
      go_ret2
      exact ⟨rfl, HXX.out ▸ HB3.out⟩
    · clear hok
      have hb : (x.dst == k) = true := beq_iff_eq.2 hn3
      have hn4 : ¬ (s.H : Int) ≤ x.dst := by omega
      clear hn3
      refine hA _ _ (K3) ?_
      try simp only [Act.put, List.setIfInBounds_toArray, List.set_cons_zero, List.set_cons_succ]
      clear A hA
      clear K3 hb3
      refine run_last ?_
      simp only [pickAt]
      repeat (go_big_quiet_step (fail))
      refine wpQuiet_nil ?_
      go_wp2_with fail
      go_ret2
      exact ⟨rfl, HXX.out ▸ HB3.out⟩
  · clear hn
    refine hA _ _ (K3) ?_
    try simp only [Act.put, List.setIfInBounds_toArray, List.set_cons_zero, List.set_cons_succ]
    clear A hA
    clear K3 hb3
    refine run_last ?_
    simp only [pickAt]
    repeat (go_big_quiet_step (fail))
    refine wpQuiet_nil ?_
    go_wp2_with fail
    go_ret2
    exact ⟨rfl, HXX.out ▸ HB3.out⟩
def MSendPost (m : Nat) (l : Ml) (s : Ms) (k : Nat) (x : It) (w : World) (e : Ending) (w' : World) : Prop := ∃ r t', e = .returned (.tuple #[.int .i64 r, .int .i64 0]) ∧ MPutRel (s.P k) x r t' ∧ MfPost m l s (mlostBy { s with P := upd s.P k t' } r) w w'
set_option maxRecDepth 100000 in
set_option maxHeartbeats 4000000 in
theorem mf_send_yes (h : Mf m l s w) (ho : s.ok N) (hN : N ≤ 100000) {k d : Nat} {x : It} (hk : k < s.H) (hd : d < s.H) (hxd : x.dst = d) (hne : d ≠ k) (hf : okF x.fr) (hdn : x.dn = x.bs.length) : Calls Try.prog 21 #[.pointer (some ⟨m, 0, none⟩), .int .i64 k, x.frv, .int .i64 x.path] w (MSendPost m l s k x w) := by
  have HF := Lib.hid h
  have HO := Lib.hid ho
  have hh := h.hs.h
  have HDN := Lib.hid hdn
  have HX := Lib.hid hf
  have hm := hf.msg.1
  have hls := Lib.hid (nP_ls s.H s.S)
  have hkp : k < nP s.H s.S := by rw [hls.out]; omega
  have hk8 : ¬ (k : Int) < 0 := by omega
  have hk7 : ¬ s.H ≤ k := by omega
  have hneb : (x.dst == (k : Int)) = false := beq_eq_false_iff_ne.2 (by omega)
  have hd8 : ¬ (s.H : Int) ≤ x.dst := by omega
  clear h ho hdn hf hxd hls
  unfold It.frv
  go_enter Try.func21, Try.ntmps21
  go_upto_region 1 with fail
  have OX := Lib.hid (Ob.new w #[.int .i64 x.kind, .int .i64 x.src, .int .i64 x.dst, .int .i64 x.prio, .int .u64 x.msg, .int .i64 x.off, .int .i64 x.len, .int .i64 x.total, .int .i64 x.num, .slice x.da x.dn x.dc] TFr)
  have HB := Lib.hid ((Below.refl w.heap.size w).alloc (Nat.le_refl _) (.cells #[.int .i64 x.kind, .int .i64 x.src, .int .i64 x.dst, .int .i64 x.prio, .int .u64 x.msg, .int .i64 x.off, .int .i64 x.len, .int .i64 x.total, .int .i64 x.num, .slice x.da x.dn x.dc] TFr))
  have F1 := Lib.hid (HF.out.below HB.out)
  generalize w.alloc (.cells #[.int .i64 x.kind, .int .i64 x.src, .int .i64 x.dst, .int .i64 x.prio, .int .u64 x.msg, .int .i64 x.off, .int .i64 x.len, .int .i64 x.total, .int .i64 x.num, .slice x.da x.dn x.dc] TFr) = w1 at *
  obtain ⟨X, HXX⟩ : ∃ X, Hid (w.heap.size = X) := ⟨_, Lib.hid rfl⟩
  rw [HXX.out] at OX ⊢
  obtain ⟨lx, cx, fx⟩ := OX.out.blk
  have cx0 : w1.cell? ⟨X, 0, none⟩ = some (.int .i64 x.kind) := cx 0
  have cx1 : w1.cell? ⟨X, 1, none⟩ = some (.int .i64 x.src) := cx 1
  have cx2 : w1.cell? ⟨X, 2, none⟩ = some (.int .i64 x.dst) := cx 2
  have cx3 : w1.cell? ⟨X, 3, none⟩ = some (.int .i64 x.prio) := cx 3
  have cx4 : w1.cell? ⟨X, 4, none⟩ = some (.int .u64 x.msg) := cx 4
  have cx5 : w1.cell? ⟨X, 5, none⟩ = some (.int .i64 x.off) := cx 5
  have cx6 : w1.cell? ⟨X, 6, none⟩ = some (.int .i64 x.len) := cx 6
  have cx7 : w1.cell? ⟨X, 7, none⟩ = some (.int .i64 x.total) := cx 7
  have cx8 : w1.cell? ⟨X, 8, none⟩ = some (.int .i64 x.num) := cx 8
  have cx9 : w1.cell? ⟨X, 9, none⟩ = some (.slice x.da x.dn x.dc) := cx 9
  clear cx
  obtain ⟨l0, c0, c1, c2, c3⟩ := F1.out.cells
  obtain ⟨n0, n1, n2, n3⟩ := F1.out.net.cells
  clear c1 c2 c3 n2 n3
  refine wp_run (M := (fun _ => False)) (stages [([true, true, true, true, true, true, true, true, true, true, true, true, true, true, true, false, false, false, false, false, false, false, false, false, false, false, false, false, false, false, false, false, false, false, false, false], 15)] [false, false, false, false, false, false, false, false, false, false, false, false, false, false, false, false, true, true, true, true, true, true, true, true, true, true, true, true, true, true, true, true, true, true, true, true]) (by kernel_rfl) (by kernel_rfl) ?_
  refine run_stage rfl ?_
  simp only [pickAt]
  repeat (go_big_quiet_step (fail))
  refine wpQuiet_nil ?_
  refine run_want rfl ?_
  intro A hA
  go_simp
  have hck := check_ref x.fr x.da x.dc hm w1.drew
  unfold Fr.val It.fr at hck
  simp only at hck
  rw [← HDN.out] at hck
  refine hck.mono ?_
  rintro e w3 ⟨hc, hb3⟩
  have K3 := Kept.of_below (M := fun _ => False) hb3
  have F3 := Lib.hid ((F1.out.keptF (Kept.drew _ w1)).keptF K3)
  have OX3 := Lib.hid ((OX.out.kept (Kept.drew (fun _ => False) w1) (fun h => h)).kept K3 (fun h => h))
  have HB3 := Lib.hid (HB.out.trans (Kept.belowAt ((Kept.drew (fun _ => False) w1).trans K3) HB.out.size (fun _ (h : False) => h.elim)))
  clear hck lx fx l0 c0 n0 n1 cx0 cx1 cx2 cx3 cx4 cx5 cx6 cx7 cx8 cx9
  obtain ⟨lx, cx, fx⟩ := OX3.out.blk
  have cx0 : w3.cell? ⟨X, 0, none⟩ = some (.int .i64 x.kind) := cx 0
  have cx1 : w3.cell? ⟨X, 1, none⟩ = some (.int .i64 x.src) := cx 1
  have cx2 : w3.cell? ⟨X, 2, none⟩ = some (.int .i64 x.dst) := cx 2
  have cx3 : w3.cell? ⟨X, 3, none⟩ = some (.int .i64 x.prio) := cx 3
  have cx4 : w3.cell? ⟨X, 4, none⟩ = some (.int .u64 x.msg) := cx 4
  have cx5 : w3.cell? ⟨X, 5, none⟩ = some (.int .i64 x.off) := cx 5
  have cx6 : w3.cell? ⟨X, 6, none⟩ = some (.int .i64 x.len) := cx 6
  have cx7 : w3.cell? ⟨X, 7, none⟩ = some (.int .i64 x.total) := cx 7
  have cx8 : w3.cell? ⟨X, 8, none⟩ = some (.int .i64 x.num) := cx 8
  have cx9 : w3.cell? ⟨X, 9, none⟩ = some (.slice x.da x.dn x.dc) := cx 9
  clear cx
  obtain ⟨l0, c0, c1, c2, c3⟩ := F3.out.cells
  obtain ⟨n0, n1, n2, n3⟩ := F3.out.net.cells
  clear c1 c2 c3 n2 n3
  have hc2 : e = .returned (.int .i64 0) := by
    rcases hc with ⟨_, hc⟩ | ⟨hn, _⟩
    · exact hc
    · exact absurd HX.out hn
  subst hc2
  clear hc
  refine hA _ _ (K3) ?_
  try simp only [Act.put, List.setIfInBounds_toArray, List.set_cons_zero, List.set_cons_succ]
  clear A hA
  clear K3 hb3
  refine run_last ?_
  simp only [pickAt]
  repeat (go_big_quiet_step (fail))
  refine wpQuiet_nil ?_
  have hpu := mf_put F3.out HO.out hN hkp (ok2_fr HX.out HDN.out)
  unfold It.val at hpu
  go_wp2_with fail
  refine (hpu).mono ?_
  rintro e w4 ⟨r, t', rfl, hrel, hp⟩
  have HREL := Lib.hid hrel
  have P4 := Lib.hid (hp.before HB3.out)
  clear hrel hp hpu
  go_wp2_with fail
  go_ret2
  exact ⟨r, t', rfl, HREL.out, P4.out⟩
end
end Go.Proofs.Ytoihhidoafgoaaa
