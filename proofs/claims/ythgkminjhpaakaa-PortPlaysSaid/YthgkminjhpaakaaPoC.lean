/- A port (chapter 13): credits put. -/
import Derived.Test.YthgkminjhpaakaaPoN
namespace Go.Proofs.Ythgkminjhpaakaa
open Go.RowKit

section
variable {b B0 : Nat} {l : Pl} {p : Pp} {w : World}
theorem Po.form (h : Po b B0 l p w) : ∃ a c, l.v = .slice a p.C.length c ∧ p.C.length ≤ c ∧ c ≤ 9223372036854775807 := (Rd.of_own h.own).form
end
set_option maxRecDepth 100000 in
set_option maxHeartbeats 4000000 in
theorem put_cfull (b B0 : Nat) (l : Pl) (p : Pp) (x : It) (w : World) (h : Po b B0 l p w) (hk : (x.kind == 11) = true) (hc : decide (p.most ≤ (p.C.length : Int)) = true) : Calls Try.prog 10 #[.pointer (some ⟨b, 0, none⟩), x.val] w fun e w' => e = .returned (.int .i64 3) ∧ Below w.heap.size w w' := by
  unfold It.val
  have HP := Lib.hid h
  clear h
  go_enter Try.func10, Try.ntmps10
  go_upto_region 1 with fail
  have OX := Lib.hid (Ob.new w #[.int .i64 x.kind, .int .i64 x.src, .int .i64 x.dst, .int .i64 x.prio, .int .u64 x.msg, .int .i64 x.off, .int .i64 x.len, .int .i64 x.total, .int .i64 x.num, .slice x.da x.dn x.dc, .int .i64 x.path] TIt)
  have HB := Lib.hid ((Below.refl w.heap.size w).alloc (Nat.le_refl _) (.cells #[.int .i64 x.kind, .int .i64 x.src, .int .i64 x.dst, .int .i64 x.prio, .int .u64 x.msg, .int .i64 x.off, .int .i64 x.len, .int .i64 x.total, .int .i64 x.num, .slice x.da x.dn x.dc, .int .i64 x.path] TIt))
  have P1 := Lib.hid (HP.out.below HB.out)
  generalize w.alloc (.cells #[.int .i64 x.kind, .int .i64 x.src, .int .i64 x.dst, .int .i64 x.prio, .int .u64 x.msg, .int .i64 x.off, .int .i64 x.len, .int .i64 x.total, .int .i64 x.num, .slice x.da x.dn x.dc, .int .i64 x.path] TIt) = w1 at *
  obtain ⟨X, HX⟩ : ∃ X, Hid (w.heap.size = X) := ⟨_, Lib.hid rfl⟩
  rw [HX.out] at OX ⊢
  obtain ⟨lx, cx, fx⟩ := OX.out.blk
  have cx0 : w1.cell? ⟨X, 0, none⟩ = some (.int .i64 x.kind) := cx 0
  have cx1 : w1.cell? ⟨X, 1, none⟩ = some (.int .i64 x.src) := cx 1
  have cx2 : w1.cell? ⟨X, 2, none⟩ = some (.int .i64 x.dst) := cx 2
  have cx3 : w1.cell? ⟨X, 3, none⟩ = some (.int .i64 x.prio) := cx 3
  have cx4 : w1.cell? ⟨X, 4, none⟩ = some (.int .u64 x.msg) := cx 4
  have cx5 : w1.cell? ⟨X, 5, none⟩ = some (.int .i64 x.off) := cx 5
  have cx6 : w1.cell? ⟨X, 6, none⟩ = some (.int .i64 x.len) := cx 6
  have cx7 : w1.cell? ⟨X, 7, none⟩ = some (.int .i64 x.total) := cx 7
  have cx8 : w1.cell? ⟨X, 8, none⟩ = some (.int .i64 x.num) := cx 8
  have cx9 : w1.cell? ⟨X, 9, none⟩ = some (.slice x.da x.dn x.dc) := cx 9
  have cx10 : w1.cell? ⟨X, 10, none⟩ = some (.int .i64 x.path) := cx 10
  clear cx
  obtain ⟨a, c, hv, _, _⟩ := P1.out.form
  have cells := (P1.out.ob.blk).2.1
  have lb := P1.out.ob.lt
  have cb0 : w1.cell? ⟨b, 0, none⟩ = some (.pointer (some ⟨l.q, 0, none⟩)) := cells 0
  have cb1 : w1.cell? ⟨b, 1, none⟩ = some (.slice a p.C.length c) := (cells 1).trans (congrArg some hv)
  have cb2 : w1.cell? ⟨b, 2, none⟩ = some (.int .i64 p.most) := cells 2
  clear cells hv
  go_wp2_with fail
  go_quiet (fail)
  go_wp2_with fail
  go_ret
  exact ⟨rfl, below_dn (HX.out ▸ HB.out)⟩
theorem info_it2 : (Try.prog.info? 33).map (fun i => (i.zero, i.size, i.bytes)) = some (some (.agg #[.int .i64 0, .int .i64 0, .int .i64 0, .int .i64 0, .int .u64 0, .int .i64 0, .int .i64 0, .int .i64 0, .int .i64 0, .slice none 0 0, .int .i64 0]), 11, 104) := by kernel_rfl
def PutC (b B0 : Nat) (l : Pl) (p : Pp) (x : It) (w : World) (e : Ending) (w' : World) : Prop := e = .returned (.int .i64 1) ∧ ∃ a c, PoPost b B0 l { p with C := p.C ++ [x.data a c] } w w'
set_option maxRecDepth 100000 in
set_option maxHeartbeats 4000000 in
theorem put_cred (b B0 : Nat) (l : Pl) (p : Pp) (x : It) (w : World) (h : Po b B0 l p w) (hr : Rd w 1 (.slice x.da x.dn x.dc) x.dn (bcells x.bs)) (hn : x.dn ≤ 1073741824) (hk : (x.kind == 11) = true) (hc : decide (p.most ≤ (p.C.length : Int)) = false) (hl : p.C.length ≤ 1000000) : Calls Try.prog 10 #[.pointer (some ⟨b, 0, none⟩), x.val] w (PutC b B0 l p x w) := by
  unfold It.val
  have HP := Lib.hid h
  have HR := Lib.hid hr
  clear h hr
  go_enter Try.func10, Try.ntmps10
  go_upto_region 1 with fail
  have OX := Lib.hid (Ob.new w #[.int .i64 x.kind, .int .i64 x.src, .int .i64 x.dst, .int .i64 x.prio, .int .u64 x.msg, .int .i64 x.off, .int .i64 x.len, .int .i64 x.total, .int .i64 x.num, .slice x.da x.dn x.dc, .int .i64 x.path] TIt)
  have HB := Lib.hid ((Below.refl w.heap.size w).alloc (Nat.le_refl _) (.cells #[.int .i64 x.kind, .int .i64 x.src, .int .i64 x.dst, .int .i64 x.prio, .int .u64 x.msg, .int .i64 x.off, .int .i64 x.len, .int .i64 x.total, .int .i64 x.num, .slice x.da x.dn x.dc, .int .i64 x.path] TIt))
  have P1 := Lib.hid (HP.out.below HB.out)
  have R1 := Lib.hid (HR.out.below HB.out)
  generalize w.alloc (.cells #[.int .i64 x.kind, .int .i64 x.src, .int .i64 x.dst, .int .i64 x.prio, .int .u64 x.msg, .int .i64 x.off, .int .i64 x.len, .int .i64 x.total, .int .i64 x.num, .slice x.da x.dn x.dc, .int .i64 x.path] TIt) = w1 at *
  obtain ⟨X, HX⟩ : ∃ X, Hid (w.heap.size = X) := ⟨_, Lib.hid rfl⟩
  rw [HX.out] at OX ⊢
  obtain ⟨lx, cx, fx⟩ := OX.out.blk
  have cx0 : w1.cell? ⟨X, 0, none⟩ = some (.int .i64 x.kind) := cx 0
  have cx1 : w1.cell? ⟨X, 1, none⟩ = some (.int .i64 x.src) := cx 1
  have cx2 : w1.cell? ⟨X, 2, none⟩ = some (.int .i64 x.dst) := cx 2
  have cx3 : w1.cell? ⟨X, 3, none⟩ = some (.int .i64 x.prio) := cx 3
  have cx4 : w1.cell? ⟨X, 4, none⟩ = some (.int .u64 x.msg) := cx 4
  have cx5 : w1.cell? ⟨X, 5, none⟩ = some (.int .i64 x.off) := cx 5
  have cx6 : w1.cell? ⟨X, 6, none⟩ = some (.int .i64 x.len) := cx 6
  have cx7 : w1.cell? ⟨X, 7, none⟩ = some (.int .i64 x.total) := cx 7
  have cx8 : w1.cell? ⟨X, 8, none⟩ = some (.int .i64 x.num) := cx 8
  have cx9 : w1.cell? ⟨X, 9, none⟩ = some (.slice x.da x.dn x.dc) := cx 9
  have cx10 : w1.cell? ⟨X, 10, none⟩ = some (.int .i64 x.path) := cx 10
  clear cx
  obtain ⟨a, c, hv, _, _⟩ := P1.out.form
  have cells := (P1.out.ob.blk).2.1
  have fb := (P1.out.ob.blk).2.2
  have lb := P1.out.ob.lt
  have cb0 : w1.cell? ⟨b, 0, none⟩ = some (.pointer (some ⟨l.q, 0, none⟩)) := cells 0
  have cb1 : w1.cell? ⟨b, 1, none⟩ = some (.slice a p.C.length c) := (cells 1).trans (congrArg some hv)
  have cb2 : w1.cell? ⟨b, 2, none⟩ = some (.int .i64 p.most) := cells 2
  have HV := Lib.hid hv
  clear cells hv
  go_wp2_with fail
  refine wp_region_quiet_lit (by kernel_rfl) (by kernel_rfl) ?_
  try simp only [List.append]
  repeat (first | go_big_quiet_step (fail) | quiet_step (fail))
  refine wpQuiet_nil ?_
  intro W hW
  have PW : Hid (Po b B0 l p W) := by obtain ⟨n, rfl⟩ := hW; exact Lib.hid (P1.out.keptF (Kept.dn _ _ _))
  have RW : Hid (Rd W 1 (.slice x.da x.dn x.dc) x.dn (bcells x.bs)) := by obtain ⟨n, rfl⟩ := hW; exact Lib.hid R1.out.dn
  have OW : Hid (Ob W X #[.int .i64 x.kind, .int .i64 x.src, .int .i64 x.dst, .int .i64 x.prio, .int .u64 x.msg, .int .i64 x.off, .int .i64 x.len, .int .i64 x.total, .int .i64 x.num, .slice x.da x.dn x.dc, .int .i64 x.path] TIt) := by obtain ⟨n, rfl⟩ := hW; exact Lib.hid OX.out.dn
  have HBW : Hid (Below w.heap.size w W) := by obtain ⟨n, rfl⟩ := hW; exact Lib.hid (below_dn HB.out)
  clear hW lx fx cx0 cx1 cx2 cx3 cx4 cx5 cx6 cx7 cx8 cx9 cx10 lb fb cb0 cb1 cb2
  obtain ⟨lx, cx, fx⟩ := OW.out.blk
  have cx0 : W.cell? ⟨X, 0, none⟩ = some (.int .i64 x.kind) := cx 0
  have cx1 : W.cell? ⟨X, 1, none⟩ = some (.int .i64 x.src) := cx 1
  have cx2 : W.cell? ⟨X, 2, none⟩ = some (.int .i64 x.dst) := cx 2
  have cx3 : W.cell? ⟨X, 3, none⟩ = some (.int .i64 x.prio) := cx 3
  have cx4 : W.cell? ⟨X, 4, none⟩ = some (.int .u64 x.msg) := cx 4
  have cx5 : W.cell? ⟨X, 5, none⟩ = some (.int .i64 x.off) := cx 5
  have cx6 : W.cell? ⟨X, 6, none⟩ = some (.int .i64 x.len) := cx 6
  have cx7 : W.cell? ⟨X, 7, none⟩ = some (.int .i64 x.total) := cx 7
  have cx8 : W.cell? ⟨X, 8, none⟩ = some (.int .i64 x.num) := cx 8
  have cx9 : W.cell? ⟨X, 9, none⟩ = some (.slice x.da x.dn x.dc) := cx 9
  have cx10 : W.cell? ⟨X, 10, none⟩ = some (.int .i64 x.path) := cx 10
  clear cx
  have cells := (PW.out.ob.blk).2.1
  have fb := (PW.out.ob.blk).2.2
  have lb := PW.out.ob.lt
  have cb1 : W.cell? ⟨b, 1, none⟩ = some (.slice a p.C.length c) := (cells 1).trans (congrArg some HV.out)
  clear cells
  go_wp2_with fail
  have hMb : ¬ Lm l.v b := fun hh => absurd ((own_ty PW.out.own hh).one PW.out.ob.ty) (by decide)
  have hMX : ¬ Lm l.v X := fun hh => by have := ((HP.out.own).lt _ hh).2; have := HX.out; omega
  refine wp_heads (M := (Lm l.v)) 11 (by kernel_rfl) (by kernel_rfl) ?_
  refine hd_quiet [true, true, true, true, true, true, false, false, false, false, false, false] (by kernel_rfl) ?_
  simp only [pickAt]
  repeat (go_big_quiet_step (fail))
  refine wpQuiet_nil ?_
  refine hd_act 6 rfl (by kernel_rfl) ?_
  refine run_want rfl ?_
  intro A hA
  go_simp
  have hown := pown x x.bs W.drew (RW.out.kept (Kept.drew (fun _ => False) W) (fun _ _ _ _ h => h)) hn
  unfold It.val at hown
  refine hown.mono ?_
  rintro e w6 ⟨a6, c6, rfl, ho6, hb6⟩
  clear hown
  obtain ⟨y, hy⟩ : ∃ y, x.data a6 c6 = y := ⟨_, rfl⟩
  have HY := Lib.hid hy
  have hd6 : Da B0 w6 y := by
    rw [← hy]
    exact own_baseP ho6 (Nat.le_trans PW.out.base (Nat.le_of_lt lb))
  rw [hy]
  clear hy
  have K6 := Lib.hid ((Kept.drew (Lm l.v) W).trans (Kept.of_below hb6))
  have P6 := Lib.hid (PW.out.keptF ((Kept.drew _ W).trans (Kept.of_below hb6)))
  have D6 := Lib.hid hd6
  refine hA _ _ (Kept.of_below hb6) ?_
  try simp only [Act.put, List.setIfInBounds_toArray, List.set_cons_zero, List.set_cons_succ]
  clear A hA
  clear hb6 ho6 hd6
  refine hd_act 7 rfl (by kernel_rfl) ?_
  refine run_want rfl ?_
  intro A hA
  go_simp
  have R7 := Lib.hid (Rd.one (k := 11) w6 #[.int .i64 y.kind, .int .i64 y.src, .int .i64 y.dst, .int .i64 y.prio, .int .u64 y.msg, .int .i64 y.off, .int .i64 y.len, .int .i64 y.total, .int .i64 y.num, .slice y.da y.dn y.dc, .int .i64 y.path] TIt rfl)
  have K7 := Lib.hid ((K6.out).alloc (.cells #[.int .i64 y.kind, .int .i64 y.src, .int .i64 y.dst, .int .i64 y.prio, .int .u64 y.msg, .int .i64 y.off, .int .i64 y.len, .int .i64 y.total, .int .i64 y.num, .slice y.da y.dn y.dc, .int .i64 y.path] TIt))
  have P7 := Lib.hid (P6.out.keptF ((Kept.refl _ _).alloc (.cells #[.int .i64 y.kind, .int .i64 y.src, .int .i64 y.dst, .int .i64 y.prio, .int .u64 y.msg, .int .i64 y.off, .int .i64 y.len, .int .i64 y.total, .int .i64 y.num, .slice y.da y.dn y.dc, .int .i64 y.path] TIt)))
  have D7 : Hid (Da B0 (w6.alloc (.cells #[.int .i64 y.kind, .int .i64 y.src, .int .i64 y.dst, .int .i64 y.prio, .int .u64 y.msg, .int .i64 y.off, .int .i64 y.len, .int .i64 y.total, .int .i64 y.num, .slice y.da y.dn y.dc, .int .i64 y.path] TIt)) y) := Lib.hid (D6.out.kept ((Kept.refl (fun _ => False) _).alloc _) (fun _ _ h => h))
  refine hA _ _ ((Kept.refl _ _).alloc _) ?_
  try simp only [Act.put, List.setIfInBounds_toArray, List.set_cons_zero, List.set_cons_succ]
  clear A hA
  refine hd_act 8 rfl (by kernel_rfl) ?_
  refine run_want rfl ?_
  intro A hA
  have own7 := P7.out.own
  rw [HV.out] at own7
  refine wp_appAt (.tmp 41) (.tmp 44) 40 (by rfl) info_it2 Try.underlying40 rfl (by decide) own7 R7.out (by rfl) (by rfl) (by simp [Value.oneCell']) (by omega) (Nat.le_trans (Nat.le_trans PW.out.base (Nat.le_of_lt lb)) K7.out.size) ?_
  intro v8 w8 ho8 hg8 hb8
  obtain ⟨a8, c8, rfl, _, _⟩ := (Rd.of_own ho8).form
  have hG : Kept (Lm l.v) (w6.alloc (.cells #[.int .i64 y.kind, .int .i64 y.src, .int .i64 y.dst, .int .i64 y.prio, .int .u64 y.msg, .int .i64 y.off, .int .i64 y.len, .int .i64 y.total, .int .i64 y.num, .slice y.da y.dn y.dc, .int .i64 y.path] TIt)) w8 := Kept.of_grown (M := Lm l.v) hg8 fun z hz => by show l.v.ownBlock = _; rw [HV.out]; exact hz
  have K8 := Lib.hid (K7.out.trans hG)
  have D8 := Lib.hid (D7.out.keptT hG fun g hg _ => ⟨_, own_ty P7.out.own hg, by decide⟩)
  have hs7 := K7.out.size
  have R8 := Lib.hid (PW.out.cred K8.out (v' := .slice a8 (p.C.length + 1) c8) (C' := p.C ++ [y]) (by simpa [It.row] using ho8) (by
    rw [HV.out]
    rcases hb8 with h | h
    · exact .inl h
    · refine .inr fun z hz => ?_
      rw [h] at hz; cases hz
      exact hs7) (fun z hz => by
    rcases List.mem_append.1 hz with hz | hz
    · exact .inl hz
    · rw [List.mem_singleton.1 hz]; exact .inr D8.out))
  have hlb : b < w8.heap.size := Nat.lt_of_lt_of_le lb K8.out.size
  have hfb : ∀ i, w8.frozen? ⟨b, i, none⟩ = false := fun i => (K8.out.frozen b i lb hMb).trans (fb i)
  have hcb : w8.cell? ⟨b, 1, none⟩ = some (.slice a p.C.length c) := (K8.out.cell b 1 lb hMb).trans cb1
  refine hA _ _ (hG) ?_
  try simp only [Act.put, List.setIfInBounds_toArray, List.set_cons_zero, List.set_cons_succ]
  clear A hA
  clear ho8 hg8 hb8 hG
  refine hd_quiet [false, false, false, false, false, false, false, false, false, true, true, false] (by kernel_rfl) ?_
  simp only [pickAt]
  repeat (go_big_quiet_step (fail))
  refine wpQuiet_nil ?_
  refine hd_tail rfl (by kernel_rfl) ?_
  simp only [List.drop_succ_cons, List.drop_zero]
  go_wp2
  refine NoPanic.normal ?_
  go_wp2
  go_ret
  obtain ⟨r1, r2, r3⟩ := R8.out
  refine ⟨rfl, a6, c6, { l with v := .slice a8 (p.C.length + 1) c8 }, by rw [HY.out]; exact r1, (Kept.of_below HBW.out).trans r2, fun z hz => ?_⟩
  rcases r3 z hz with h | h
  · exact .inl h
  · exact .inr (Nat.le_trans HBW.out.size h)
theorem credits_pt (b B0 : Nat) (l : Pl) (p : Pp) (w : World) (h : Po b B0 l p w) : Calls Try.prog 12 #[.pointer (some ⟨b, 0, none⟩)] w fun e w' => e = .returned (.int .i64 p.C.length) ∧ w = w' := by
  obtain ⟨a, c, hv, _, _⟩ := h.form
  have lb := h.ob.lt
  have cb1 : w.cell? ⟨b, 1, none⟩ = some (.slice a p.C.length c) := ((h.ob.blk).2.1 1).trans (congrArg some hv)
  clear hv h
  go_enter Try.func12, Try.ntmps12
  go_wp2_with fail
  go_ret
  exact ⟨rfl, rfl⟩
theorem credits_ni (w : World) : Calls Try.prog 12 #[.pointer none] w fun e w' => e = .returned (.int .i64 0) ∧ w = w' := by
  go_enter Try.func12, Try.ntmps12
  go_wp2_with fail
  go_ret
  exact ⟨rfl, rfl⟩
theorem used_ni (w : World) : Calls Try.prog 16 #[.pointer none] w fun e w' => e = .returned (.int .i64 0) ∧ w = w' := by
  go_enter Try.func16, Try.ntmps16
  go_wp2_with fail
  go_ret
  exact ⟨rfl, rfl⟩
theorem used_pt (b B0 : Nat) (l : Pl) (p : Pp) (w : World) (h : Po b B0 l p w) : Calls Try.prog 16 #[.pointer (some ⟨b, 0, none⟩)] w fun e w' => e = .returned (.int .i64 p.u) ∧ w = w' := by
  have HQ := Lib.hid h.qu
  have lb := h.ob.lt
  have cb0 : w.cell? ⟨b, 0, none⟩ = some (.pointer (some ⟨l.q, 0, none⟩)) := (h.ob.blk).2.1 0
  clear h
  go_enter Try.func16, Try.ntmps16
  go_wp2_with fail
  refine (used_any _ _ _ _ _ _ _ HQ.out).mono ?_
  rintro e w1 ⟨rfl, rfl⟩
  go_wp2_with fail
  go_ret
  exact ⟨rfl, rfl⟩
theorem wait_ni (w : World) : Calls Try.prog 14 #[.pointer none] w fun e w' => e = .returned (.slice none 0 0) ∧ w = w' := by
  go_enter Try.func14, Try.ntmps14
  go_wp2_with fail
  go_ret
  exact ⟨rfl, rfl⟩
theorem take_ni (now : Int) (w : World) : Calls Try.prog 11 #[.pointer none, .int .i64 now] w fun e w' => e = .returned (.tuple #[noBox, .bool false]) ∧ Below w.heap.size w w' := by
  go_enter Try.func11, Try.ntmps11
  go_wp2_with fail
  refine done (.tuple #[noBox, .bool false]) rfl (by simp [noBox, results, Try.results11, go_sem]) ⟨rfl, (Below.refl _ _).alloc (Nat.le_refl _) _⟩
theorem len_ni (w : World) : Calls Try.prog 45 #[.pointer none] w fun e w' => e = .returned (.int .i64 0) ∧ w = w' := by
  go_enter Try.func45, Try.ntmps45
  go_wp2_with fail
  go_ret
  exact ⟨rfl, rfl⟩
theorem drop_ni (k : Int) (w : World) : Calls Try.prog 22 #[.pointer none, .int .i64 k] w fun e w' => e = .returned (.tuple #[noBox, .bool false]) ∧ Below w.heap.size w w' := by
  by_cases hk : k < 0
  · go_enter Try.func22, Try.ntmps22
    go_wp2_with fail
    refine done (.tuple #[noBox, .bool false]) rfl (by simp [noBox, results, Try.results22, go_sem]) ⟨rfl, (Below.refl _ _).alloc (Nat.le_refl _) _⟩
  · go_enter Try.func22, Try.ntmps22
    go_wp2_with fail
    refine (len_ni _).mono ?_
    rintro e w1 ⟨rfl, rfl⟩
    go_wp2_with fail
    refine done (.tuple #[noBox, .bool false]) rfl (by simp [noBox, results, Try.results22, go_sem]) ⟨rfl, (Below.refl _ _).alloc (Nat.le_refl _) _⟩
theorem twice_ni (k : Int) (w : World) : Calls Try.prog 48 #[.pointer none, .int .i64 k] w fun e w' => e = .returned (.tuple #[.int .i64 0, .bool false]) ∧ w = w' := by
  by_cases hk : k < 0
  · go_enter Try.func48, Try.ntmps48
    go_wp2_with fail
    go_ret2
    exact ⟨rfl, rfl⟩
  · go_enter Try.func48, Try.ntmps48
    go_wp2_with fail
    refine (len_ni _).mono ?_
    rintro e w1 ⟨rfl, rfl⟩
    go_wp2_with fail
    go_ret2
    exact ⟨rfl, rfl⟩
theorem double_ni (k : Int) (w : World) : Calls Try.prog 25 #[.pointer none, .int .i64 k] w fun e w' => e = .returned (.bool false) ∧ w = w' := by
  go_enter Try.func25, Try.ntmps25
  go_wp2_with fail
  refine (twice_ni _ _).mono ?_
  rintro e w1 ⟨rfl, rfl⟩
  go_wp2_with fail
  go_ret
  exact ⟨rfl, rfl⟩
end Go.Proofs.Ythgkminjhpaakaa
