/- A port (chapter 13): credits put. -/
import Derived.Test.YtoihhidoafgoaaaPoN
namespace Go.Proofs.Ytoihhidoafgoaaa
open Go.RowKit

section
variable {b B0 : Nat} {l : Pl} {p : Pp} {w : World}
theorem Po.form (h : Po b B0 l p w) : ∃ a c, l.v = .slice a p.C.length c ∧ p.C.length ≤ c ∧ c ≤ 9223372036854775807 := (Rd.of_own h.own).form
end
set_option maxRecDepth 100000 in
set_option maxHeartbeats 4000000 in
theorem put_cfull (b B0 : Nat) (l : Pl) (p : Pp) (x : It) (w : World) (h : Po b B0 l p w) (hk : (x.kind == 11) = true) (hc : decide (p.most ≤ (p.C.length : Int)) = true) : Calls Try.prog 38 #[.pointer (some ⟨b, 0, none⟩), x.val] w fun e w' => e = .returned (.int .i64 3) ∧ Below w.heap.size w w' := by
  unfold It.val
  have HP := Lib.hid h
  clear h
  go_enter Try.func38, Try.ntmps38
  go_upto_region 1 with fail
  have OX := Lib.hid (Ob.new w #[.int .i64 x.kind, .int .i64 x.src, .int .i64 x.dst, .int .i64 x.prio, .int .u64 x.msg, .int .i64 x.off, .int .i64 x.len, .int .i64 x.total, .int .i64 x.num, .slice x.da x.dn x.dc, .int .i64 x.path] TIt)
  have HB := Lib.hid ((Below.refl w.heap.size w).alloc (Nat.le_refl _) (.cells #[.int .i64 x.kind, .int .i64 x.src, .int .i64 x.dst, .int .i64 x.prio, .int .u64 x.msg, .int .i64 x.off, .int .i64 x.len, .int .i64 x.total, .int .i64 x.num, .slice x.da x.dn x.dc, .int .i64 x.path] TIt))
  have P1 := Lib.hid (HP.out.below HB.out)
  generalize w.alloc (.cells #[.int .i64 x.kind, .int .i64 x.src, .int .i64 x.dst, .int .i64 x.prio, .int .u64 x.msg, .int .i64 x.off, .int .i64 x.len, .int .i64 x.total, .int .i64 x.num, .slice x.da x.dn x.dc, .int .i64 x.path] TIt) = w1 at *
  obtain ⟨X, HX⟩ : ∃ X, Hid (w.heap.size = X) := ⟨_, Lib.hid rfl⟩
  rw [HX.out] at OX ⊢
  obtain ⟨lx, cx, fx⟩ := OX.out.blk
  have cx0 : w1.cell? ⟨X, 0, none⟩ = some (.int .i64 x.kind) := cx 0
  have cx1 : w1.cell? ⟨X, 1, none⟩ = some (.int .i64 x.src) := cx 1
  have cx2 : w1.cell? ⟨X, 2, none⟩ = some (.int .i64 x.dst) := cx 2
  have cx3 : w1.cell? ⟨X, 3, none⟩ = some (.int .i64 x.prio) := cx 3
  have cx4 : w1.cell? ⟨X, 4, none⟩ = some (.int .u64 x.msg) := cx 4
  have cx5 : w1.cell? ⟨X, 5, none⟩ = some (.int .i64 x.off) := cx 5
  have cx6 : w1.cell? ⟨X, 6, none⟩ = some (.int .i64 x.len) := cx 6
  have cx7 : w1.cell? ⟨X, 7, none⟩ = some (.int .i64 x.total) := cx 7
  have cx8 : w1.cell? ⟨X, 8, none⟩ = some (.int .i64 x.num) := cx 8
  have cx9 : w1.cell? ⟨X, 9, none⟩ = some (.slice x.da x.dn x.dc) := cx 9
  have cx10 : w1.cell? ⟨X, 10, none⟩ = some (.int .i64 x.path) := cx 10
  clear cx
  obtain ⟨a, c, hv, _, _⟩ := P1.out.form
  have cells := (P1.out.ob.blk).2.1
  have lb := P1.out.ob.lt
  have cb0 : w1.cell? ⟨b, 0, none⟩ = some (.pointer (some ⟨l.q, 0, none⟩)) := cells 0
  have cb1 : w1.cell? ⟨b, 1, none⟩ = some (.slice a p.C.length c) := (cells 1).trans (congrArg some hv)
  have cb2 : w1.cell? ⟨b, 2, none⟩ = some (.int .i64 p.most) := cells 2
  clear cells hv
  go_wp2_with fail
  go_quiet (fail)
  go_wp2_with fail
  go_ret
  exact ⟨rfl, below_dn (HX.out ▸ HB.out)⟩
theorem info_it2 : (Try.prog.info? 81).map (fun i => (i.zero, i.size, i.bytes)) = some (some (.agg #[.int .i64 0, .int .i64 0, .int .i64 0, .int .i64 0, .int .u64 0, .int .i64 0, .int .i64 0, .int .i64 0, .int .i64 0, .slice none 0 0, .int .i64 0]), 11, 104) := by kernel_rfl
def PutC (b B0 : Nat) (l : Pl) (p : Pp) (x : It) (w : World) (e : Ending) (w' : World) : Prop := e = .returned (.int .i64 1) ∧ ∃ a c, PoPost b B0 l { p with C := p.C ++ [x.data a c] } w w'
set_option maxRecDepth 100000 in
set_option maxHeartbeats 4000000 in
theorem put_cred (b B0 : Nat) (l : Pl) (p : Pp) (x : It) (w : World) (h : Po b B0 l p w) (hr : Rd w 1 (.slice x.da x.dn x.dc) x.dn (bcells x.bs)) (hn : x.dn ≤ 1073741824) (hk : (x.kind == 11) = true) (hc : decide (p.most ≤ (p.C.length : Int)) = false) (hl : p.C.length ≤ 1000000) : Calls Try.prog 38 #[.pointer (some ⟨b, 0, none⟩), x.val] w (PutC b B0 l p x w) := by
  unfold It.val
  have HP := Lib.hid h
  have HR := Lib.hid hr
  clear h hr
  go_enter Try.func38, Try.ntmps38
  go_upto_region 1 with fail
  have OX := Lib.hid (Ob.new w #[.int .i64 x.kind, .int .i64 x.src, .int .i64 x.dst, .int .i64 x.prio, .int .u64 x.msg, .int .i64 x.off, .int .i64 x.len, .int .i64 x.total, .int .i64 x.num, .slice x.da x.dn x.dc, .int .i64 x.path] TIt)
  have HB := Lib.hid ((Below.refl w.heap.size w).alloc (Nat.le_refl _) (.cells #[.int .i64 x.kind, .int .i64 x.src, .int .i64 x.dst, .int .i64 x.prio, .int .u64 x.msg, .int .i64 x.off, .int .i64 x.len, .int .i64 x.total, .int .i64 x.num, .slice x.da x.dn x.dc, .int .i64 x.path] TIt))
  have P1 := Lib.hid (HP.out.below HB.out)
  have R1 := Lib.hid (HR.out.below HB.out)
  generalize w.alloc (.cells #[.int .i64 x.kind, .int .i64 x.src, .int .i64 x.dst, .int .i64 x.prio, .int .u64 x.msg, .int .i64 x.off, .int .i64 x.len, .int .i64 x.total, .int .i64 x.num, .slice x.da x.dn x.dc, .int .i64 x.path] TIt) = w1 at *
  obtain ⟨X, HX⟩ : ∃ X, Hid (w.heap.size = X) := ⟨_, Lib.hid rfl⟩
  rw [HX.out] at OX ⊢
  obtain ⟨lx, cx, fx⟩ := OX.out.blk
  have cx0 : w1.cell? ⟨X, 0, none⟩ = some (.int .i64 x.kind) := cx 0
  have cx1 : w1.cell? ⟨X, 1, none⟩ = some (.int .i64 x.src) := cx 1
  have cx2 : w1.cell? ⟨X, 2, none⟩ = some (.int .i64 x.dst) := cx 2
  have cx3 : w1.cell? ⟨X, 3, none⟩ = some (.int .i64 x.prio) := cx 3
  have cx4 : w1.cell? ⟨X, 4, none⟩ = some (.int .u64 x.msg) := cx 4
  have cx5 : w1.cell? ⟨X, 5, none⟩ = some (.int .i64 x.off) := cx 5
  have cx6 : w1.cell? ⟨X, 6, none⟩ = some (.int .i64 x.len) := cx 6
  have cx7 : w1.cell? ⟨X, 7, none⟩ = some (.int .i64 x.total) := cx 7
  have cx8 : w1.cell? ⟨X, 8, none⟩ = some (.int .i64 x.num) := cx 8
  have cx9 : w1.cell? ⟨X, 9, none⟩ = some (.slice x.da x.dn x.dc) := cx 9
  have cx10 : w1.cell? ⟨X, 10, none⟩ = some (.int .i64 x.path) := cx 10
  clear cx
  obtain ⟨a, c, hv, _, _⟩ := P1.out.form
  have cells := (P1.out.ob.blk).2.1
  have fb := (P1.out.ob.blk).2.2
  have lb := P1.out.ob.lt
  have cb0 : w1.cell? ⟨b, 0, none⟩ = some (.pointer (some ⟨l.q, 0, none⟩)) := cells 0
  have cb1 : w1.cell? ⟨b, 1, none⟩ = some (.slice a p.C.length c) := (cells 1).trans (congrArg some hv)
  have cb2 : w1.cell? ⟨b, 2, none⟩ = some (.int .i64 p.most) := cells 2
  have HV := Lib.hid hv
  clear cells hv
  go_wp2_with fail
  refine wp_region_quiet_lit (by kernel_rfl) (by kernel_rfl) ?_
  try simp only [List.append]
  repeat (first | go_big_quiet_step (fail) | quiet_step (fail))
  refine wpQuiet_nil ?_
  intro W hW
  have PW : Hid (Po b B0 l p W) := by obtain ⟨n, rfl⟩ := hW; exact Lib.hid (P1.out.keptF (Kept.dn _ _ _))
  have RW : Hid (Rd W 1 (.slice x.da x.dn x.dc) x.dn (bcells x.bs)) := by obtain ⟨n, rfl⟩ := hW; exact Lib.hid R1.out.dn
  have OW : Hid (Ob W X #[.int .i64 x.kind, .int .i64 x.src, .int .i64 x.dst, .int .i64 x.prio, .int .u64 x.msg, .int .i64 x.off, .int .i64 x.len, .int .i64 x.total, .int .i64 x.num, .slice x.da x.dn x.dc, .int .i64 x.path] TIt) := by obtain ⟨n, rfl⟩ := hW; exact Lib.hid OX.out.dn
  have HBW : Hid (Below w.heap.size w W) := by obtain ⟨n, rfl⟩ := hW; exact Lib.hid (below_dn HB.out)
  clear hW lx fx cx0 cx1 cx2 cx3 cx4 cx5 cx6 cx7 cx8 cx9 cx10 lb fb cb0 cb1 cb2
  obtain ⟨lx, cx, fx⟩ := OW.out.blk
  have cx0 : W.cell? ⟨X, 0, none⟩ = some (.int .i64 x.kind) := cx 0
  have cx1 : W.cell? ⟨X, 1, none⟩ = some (.int .i64 x.src) := cx 1
  have cx2 : W.cell? ⟨X, 2, none⟩ = some (.int .i64 x.dst) := cx 2
  have cx3 : W.cell? ⟨X, 3, none⟩ = some (.int .i64 x.prio) := cx 3
  have cx4 : W.cell? ⟨X, 4, none⟩ = some (.int .u64 x.msg) := cx 4
  have cx5 : W.cell? ⟨X, 5, none⟩ = some (.int .i64 x.off) := cx 5
  have cx6 : W.cell? ⟨X, 6, none⟩ = some (.int .i64 x.len) := cx 6
  have cx7 : W.cell? ⟨X, 7, none⟩ = some (.int .i64 x.total) := cx 7
  have cx8 : W.cell? ⟨X, 8, none⟩ = some (.int .i64 x.num) := cx 8
  have cx9 : W.cell? ⟨X, 9, none⟩ = some (.slice x.da x.dn x.dc) := cx 9
  have cx10 : W.cell? ⟨X, 10, none⟩ = some (.int .i64 x.path) := cx 10
  clear cx
  have cells := (PW.out.ob.blk).2.1
  have fb := (PW.out.ob.blk).2.2
  have lb := PW.out.ob.lt
  have cb1 : W.cell? ⟨b, 1, none⟩ = some (.slice a p.C.length c) := (cells 1).trans (congrArg some HV.out)
  clear cells
  go_wp2_with fail
  have hMb : ¬ Lm l.v b := fun hh => absurd ((own_ty PW.out.own hh).one PW.out.ob.ty) (by decide)
  have hMX : ¬ Lm l.v X := fun hh => by have := ((HP.out.own).lt _ hh).2; have := HX.out; omega
  refine wp_heads (M := (Lm l.v)) 11 (by kernel_rfl) (by kernel_rfl) ?_
  refine hd_quiet [true, true, true, true, true, true, false, false, false, false, false, false] (by kernel_rfl) ?_
  simp only [pickAt]
  repeat (go_big_quiet_step (fail))
  refine wpQuiet_nil ?_
  refine hd_act 6 rfl (by kernel_rfl) ?_
  refine run_want rfl ?_
  intro A hA
  go_simp
  have hown := pown x x.bs W.drew (RW.out.kept (Kept.drew (fun _ => False) W) (fun _ _ _ _ h => h)) hn
  unfold It.val at hown
  refine hown.mono ?_
  rintro e w6 ⟨a6, c6, rfl, ho6, hb6⟩
  clear hown
  obtain ⟨y, hy⟩ : ∃ y, x.data a6 c6 = y := ⟨_, rfl⟩
  have HY := Lib.hid hy
  have hd6 : Da B0 w6 y := by
    rw [← hy]
    exact own_baseP ho6 (Nat.le_trans PW.out.base (Nat.le_of_lt lb))
  rw [hy]
  clear hy
  have K6 := Lib.hid ((Kept.drew (Lm l.v) W).trans (Kept.of_below hb6))
  have P6 := Lib.hid (PW.out.keptF ((Kept.drew _ W).trans (Kept.of_below hb6)))
  have D6 := Lib.hid hd6
  refine hA _ _ (Kept.of_below hb6) ?_
  try simp only [Act.put, List.setIfInBounds_toArray, List.set_cons_zero, List.set_cons_succ]
  clear A hA
  clear hb6 ho6 hd6
  refine hd_act 7 rfl (by kernel_rfl) ?_
  refine run_want rfl ?_
  intro A hA
  go_simp
  have R7 := Lib.hid (Rd.one (k := 11) w6 #[.int .i64 y.kind, .int .i64 y.src, .int .i64 y.dst, .int .i64 y.prio, .int .u64 y.msg, .int .i64 y.off, .int .i64 y.len, .int .i64 y.total, .int .i64 y.num, .slice y.da y.dn y.dc, .int .i64 y.path] TIt rfl)
  have K7 := Lib.hid ((K6.out).alloc (.cells #[.int .i64 y.kind, .int .i64 y.src, .int .i64 y.dst, .int .i64 y.prio, .int .u64 y.msg, .int .i64 y.off, .int .i64 y.len, .int .i64 y.total, .int .i64 y.num, .slice y.da y.dn y.dc, .int .i64 y.path] TIt))
  have P7 := Lib.hid (P6.out.keptF ((Kept.refl _ _).alloc (.cells #[.int .i64 y.kind, .int .i64 y.src, .int .i64 y.dst, .int .i64 y.prio, .int .u64 y.msg, .int .i64 y.off, .int .i64 y.len, .int .i64 y.total, .int .i64 y.num, .slice y.da y.dn y.dc, .int .i64 y.path] TIt)))
  have D7 : Hid (Da B0 (w6.alloc (.cells #[.int .i64 y.kind, .int .i64 y.src, .int .i64 y.dst, .int .i64 y.prio, .int .u64 y.msg, .int .i64 y.off, .int .i64 y.len, .int .i64 y.total, .int .i64 y.num, .slice y.da y.dn y.dc, .int .i64 y.path] TIt)) y) := Lib.hid (D6.out.kept ((Kept.refl (fun _ => False) _).alloc _) (fun _ _ h => h))
  refine hA _ _ ((Kept.refl _ _).alloc _) ?_
  try simp only [Act.put, List.setIfInBounds_toArray, List.set_cons_zero, List.set_cons_succ]
  clear A hA
  refine hd_act 8 rfl (by kernel_rfl) ?_
  refine run_want rfl ?_
  intro A hA
  have own7 := P7.out.own
  rw [HV.out] at own7
  refine wp_appAt (.tmp 41) (.tmp 44) 87 (by rfl) info_it2 Try.underlying87 rfl (by decide) own7 R7.out (by rfl) (by rfl) (by simp [Value.oneCell']) (by omega) (Nat.le_trans (Nat.le_trans PW.out.base (Nat.le_of_lt lb)) K7.out.size) ?_
  intro v8 w8 ho8 hg8 hb8
  obtain ⟨a8, c8, rfl, _, _⟩ := (Rd.of_own ho8).form
  have hG : Kept (Lm l.v) (w6.alloc (.cells #[.int .i64 y.kind, .int .i64 y.src, .int .i64 y.dst, .int .i64 y.prio, .int .u64 y.msg, .int .i64 y.off, .int .i64 y.len, .int .i64 y.total, .int .i64 y.num, .slice y.da y.dn y.dc, .int .i64 y.path] TIt)) w8 := Kept.of_grown (M := Lm l.v) hg8 fun z hz => by show l.v.ownBlock = _; rw [HV.out]; exact hz
  have K8 := Lib.hid (K7.out.trans hG)
  have D8 := Lib.hid (D7.out.keptT hG fun g hg _ => ⟨_, own_ty P7.out.own hg, by decide⟩)
  have hs7 := K7.out.size
  have R8 := Lib.hid (PW.out.cred K8.out (v' := .slice a8 (p.C.length + 1) c8) (C' := p.C ++ [y]) (by simpa [It.row] using ho8) (by
    rw [HV.out]
    rcases hb8 with h | h
    · exact .inl h
    · refine .inr fun z hz => ?_
      rw [h] at hz; cases hz
      exact hs7) (fun z hz => by
    rcases List.mem_append.1 hz with hz | hz
    · exact .inl hz
    · rw [List.mem_singleton.1 hz]; exact .inr D8.out))
  have hlb : b < w8.heap.size := Nat.lt_of_lt_of_le lb K8.out.size
  have hfb : ∀ i, w8.frozen? ⟨b, i, none⟩ = false := fun i => (K8.out.frozen b i lb hMb).trans (fb i)
  have hcb : w8.cell? ⟨b, 1, none⟩ = some (.slice a p.C.length c) := (K8.out.cell b 1 lb hMb).trans cb1
  refine hA _ _ (hG) ?_
  try simp only [Act.put, List.setIfInBounds_toArray, List.set_cons_zero, List.set_cons_succ]
  clear A hA
  clear ho8 hg8 hb8 hG
  refine hd_quiet [false, false, false, false, false, false, false, false, false, true, true, false] (by kernel_rfl) ?_
  simp only [pickAt]
  repeat (go_big_quiet_step (fail))
  refine wpQuiet_nil ?_
  refine hd_tail rfl (by kernel_rfl) ?_
  simp only [List.drop_succ_cons, List.drop_zero]
  go_wp2
  refine NoPanic.normal ?_
  go_wp2
  go_ret
  obtain ⟨r1, r2, r3⟩ := R8.out
  refine ⟨rfl, a6, c6, { l with v := .slice a8 (p.C.length + 1) c8 }, by rw [HY.out]; exact r1, (Kept.of_below HBW.out).trans r2, fun z hz => ?_⟩
  rcases r3 z hz with h | h
  · exact .inl h
  · exact .inr (Nat.le_trans HBW.out.size h)
theorem wait_ni (w : World) : Calls Try.prog 45 #[.pointer none] w fun e w' => e = .returned (.slice none 0 0) ∧ w = w' := by
  go_enter Try.func45, Try.ntmps45
  go_wp2_with fail
  go_ret
  exact ⟨rfl, rfl⟩
theorem take_ni (now : Int) (w : World) : Calls Try.prog 39 #[.pointer none, .int .i64 now] w fun e w' => e = .returned (.tuple #[noBox, .bool false]) ∧ Below w.heap.size w w' := by
  go_enter Try.func39, Try.ntmps39
  go_wp2_with fail
  refine done (.tuple #[noBox, .bool false]) rfl (by simp [noBox, results, Try.results39, go_sem]) ⟨rfl, (Below.refl _ _).alloc (Nat.le_refl _) _⟩
theorem len_ni (w : World) : Calls Try.prog 44 #[.pointer none] w fun e w' => e = .returned (.int .i64 0) ∧ w = w' := by
  go_enter Try.func44, Try.ntmps44
  go_wp2_with fail
  go_ret
  exact ⟨rfl, rfl⟩
theorem drop_ni (k : Int) (w : World) : Calls Try.prog 46 #[.pointer none, .int .i64 k] w fun e w' => e = .returned (.tuple #[noBox, .bool false]) ∧ Below w.heap.size w w' := by
  by_cases hk : k < 0
  · go_enter Try.func46, Try.ntmps46
    go_wp2_with fail
    refine done (.tuple #[noBox, .bool false]) rfl (by simp [noBox, results, Try.results46, go_sem]) ⟨rfl, (Below.refl _ _).alloc (Nat.le_refl _) _⟩
  · go_enter Try.func46, Try.ntmps46
    go_wp2_with fail
    refine (len_ni _).mono ?_
    rintro e w1 ⟨rfl, rfl⟩
    go_wp2_with fail
    refine done (.tuple #[noBox, .bool false]) rfl (by simp [noBox, results, Try.results46, go_sem]) ⟨rfl, (Below.refl _ _).alloc (Nat.le_refl _) _⟩
theorem twice_ni (k : Int) (w : World) : Calls Try.prog 56 #[.pointer none, .int .i64 k] w fun e w' => e = .returned (.tuple #[.int .i64 0, .bool false]) ∧ w = w' := by
  by_cases hk : k < 0
  · go_enter Try.func56, Try.ntmps56
    go_wp2_with fail
    go_ret2
    exact ⟨rfl, rfl⟩
  · go_enter Try.func56, Try.ntmps56
    go_wp2_with fail
    refine (len_ni _).mono ?_
    rintro e w1 ⟨rfl, rfl⟩
    go_wp2_with fail
    go_ret2
    exact ⟨rfl, rfl⟩
end Go.Proofs.Ytoihhidoafgoaaa
/- A port (chapter 13): a credit taken. -/
namespace Go.Proofs.Ytoihhidoafgoaaa
open Go.RowKit

/-- a cell of the port's own block is another -/
theorem Po.onlyB {b B0 : Nat} {l : Pl} {p : Pp} {w w' : World} (h : Po b B0 l p w) (hk : Kept (Only b) w w') {p' : Pp} (ho : Ob w' b (ptcells l p') TPt) (h1 : p'.C = p.C) (h2 : p'.pc = p.pc) (h3 : p'.room = p.room) (h4 : p'.u = p.u) (h5 : p'.L = p.L) : Po b B0 l p' w' := by
  have hn : ∀ {g T}, Ty w g T → T ≠ TPt → ¬ Only b g := fun hT hne hh => by
    have : _ = b := hh
    subst this
    exact hne (hT.one h.ob.ty)
  refine ⟨ho, ?_, ?_, ?_, h.base, h.pbase, h2 ▸ h.pok, fun x hx => ?_⟩
  · rw [h1]
    exact own_kept h.own hk fun g hg => hn (own_ty h.own hg) (by decide)
  · rw [h2]
    exact Ob.kept h.pc hk (hn (Ob.ty h.pc) (by decide))
  · rw [h3, h4, h5]
    exact h.qu.kept hk fun g hg => by
      rcases h.qu.ty hg with h2 | h2
      · exact hn h2 (by decide)
      · exact hn h2 (by decide)
  · have hx' : p.has x := by
      unfold Pp.has at *
      rw [h1, h5] at hx
      exact hx
    exact (h.data x hx').keptT hk fun g hg _ => ⟨TPt, by rw [show g = b from hg]; exact h.ob.ty, by decide⟩
theorem Po.onlyP {b B0 : Nat} {l : Pl} {p : Pp} {w w' : World} (h : Po b B0 l p w) (hk : Kept (Only l.pb) w w') {s : Pc} (hp : PcI l.pb s w') (hs : s.ok) : Po b B0 l { p with pc := s } w' := by
  have hn : ∀ {g T}, Ty w g T → T ≠ 140 → ¬ Only l.pb g := fun hT hne hh => by
    have : _ = l.pb := hh
    subst this
    exact hne (hT.one (Ob.ty h.pc))
  refine ⟨h.ob.kept hk (hn h.ob.ty (by decide)), own_kept h.own hk fun g hg => hn (own_ty h.own hg) (by decide), hp, h.qu.kept hk fun g hg => ?_, h.base, h.pbase, hs, fun x hx => ?_⟩
  · rcases h.qu.ty hg with h2 | h2
    · exact hn h2 (by decide)
    · exact hn h2 (by decide)
  · exact (h.data x hx).keptT hk fun g hg _ => ⟨140, by rw [show g = l.pb from hg]; exact Ob.ty h.pc, by decide⟩
theorem getElem?_app {α : Type} {l1 l2 : List α} {j : Nat} {u : α} (h : l1[j]? = some u) : (l1 ++ l2)[j]? = some u := by
  obtain ⟨h1, h2⟩ := List.getElem?_eq_some_iff.1 h
  rw [List.getElem?_append_left h1]
  exact h
theorem one_itrows (l : List It) : ∀ u ∈ l.flatMap It.row, u.oneCell' = true := by
  intro u hu
  rw [List.mem_flatMap] at hu
  obtain ⟨x, _, hx⟩ := hu
  simp only [It.row, List.mem_cons, List.not_mem_nil, or_false] at hx
  rcases hx with rfl | rfl | rfl | rfl | rfl | rfl | rfl | rfl | rfl | rfl | rfl <;> rfl
/-- an item of the call's own is written -/
theorem Po.local {b B0 X : Nat} {l : Pl} {p : Pp} {w w' : World} (h : Po b B0 l p w) (hk : Kept (Only X) w w') (hX : Ty w X TIt) (hv : l.v.ownBlock ≠ some X) : Po b B0 l p w' := by
  refine h.kept hk (fun y hy hh => ?_) fun g hg _ => ⟨TIt, by rw [show g = X from hg]; exact hX, by decide⟩
  have : y = X := hh
  subst this
  rcases hy with hy | hy | hy | hy
  · exact absurd (hX.one (by rw [hy]; exact h.ob.ty)) (by decide)
  · exact absurd (hX.one (by rw [hy]; exact Ob.ty h.pc)) (by decide)
  · exact hv hy
  · rcases h.qu.ty hy with h2 | h2
    · exact absurd (hX.one h2) (by decide)
    · exact absurd (hX.one h2) (by decide)
def TakeC (b B0 : Nat) (l : Pl) (p' : Pp) (x : It) (w : World) (e : Ending) (w' : World) : Prop := e = .returned (.tuple #[boxV x, .bool true]) ∧ PoPost b B0 l p' w w'
set_option maxRecDepth 100000 in
set_option maxHeartbeats 4000000 in
theorem take_cred (b B0 : Nat) (l : Pl) (p : Pp) (x : It) (r : List It) (now t : Int) (w : World) (h : Po b B0 l p w) (hC : p.C = x :: r) (ht : max p.now now = t) (hd : p.pc.due t = true) (hl : p.C.length ≤ 1000000) : Calls Try.prog 39 #[.pointer (some ⟨b, 0, none⟩), .int .i64 now] w (TakeC b B0 l { p with now := t, pc := p.pc.go t, C := r } x w) := by
  have HP := Lib.hid h
  have HC := Lib.hid hC
  have HD := Lib.hid hd
  have HT := Lib.hid ht
  clear h hC hd ht
  go_enter Try.func39, Try.ntmps39
  go_upto_region 1 with fail
  have OV := Lib.hid (Ob.new w #[.int .i64 0, .int .i64 0, .int .i64 0, .int .i64 0, .int .u64 0, .int .i64 0, .int .i64 0, .int .i64 0, .int .i64 0, .slice none 0 0, .int .i64 0] TIt)
  have HB := Lib.hid ((Below.refl w.heap.size w).alloc (Nat.le_refl _) (.cells #[.int .i64 0, .int .i64 0, .int .i64 0, .int .i64 0, .int .u64 0, .int .i64 0, .int .i64 0, .int .i64 0, .int .i64 0, .slice none 0 0, .int .i64 0] TIt))
  have P1 := Lib.hid (HP.out.below HB.out)
  generalize w.alloc (.cells #[.int .i64 0, .int .i64 0, .int .i64 0, .int .i64 0, .int .u64 0, .int .i64 0, .int .i64 0, .int .i64 0, .int .i64 0, .slice none 0 0, .int .i64 0] TIt) = w1 at *
  obtain ⟨X, HX⟩ : ∃ X, Hid (w.heap.size = X) := ⟨_, Lib.hid rfl⟩
  rw [HX.out] at OV ⊢
  obtain ⟨a, c, hv, _, _⟩ := P1.out.form
  have cells := (P1.out.ob.blk).2.1
  have fb := (P1.out.ob.blk).2.2
  have lb := P1.out.ob.lt
  have cb0 : w1.cell? ⟨b, 0, none⟩ = some (.pointer (some ⟨l.q, 0, none⟩)) := cells 0
  have cb4 : w1.cell? ⟨b, 4, none⟩ = some (.int .i64 p.now) := cells 4
  have HV := Lib.hid hv
  clear cells hv
  go_upto_region 4 with fail
  rw [HT.out]
  have K2 : Hid (Kept (Only b) w1 (w1.setCell ⟨b, 4, none⟩ (.int .i64 t))) := Lib.hid (Kept.refl _ _).setO
  have P2 := Lib.hid (P1.out.onlyB K2.out (p' := { p with now := t }) (Ob.set P1.out.ob 4 _) rfl rfl rfl rfl rfl)
  have OV2 := Lib.hid (OV.out.other ⟨b, 4, none⟩ (.int .i64 t) (fun hh => absurd (Ty.one (hh ▸ OV.out.ty) P1.out.ob.ty) (by decide)))
  clear lb fb cb0 cb4
  generalize w1.setCell ⟨b, 4, none⟩ (.int .i64 t) = w2 at *
  have cells := (P2.out.ob.blk).2.1
  have fb := (P2.out.ob.blk).2.2
  have lb := P2.out.ob.lt
  have cb1 : w2.cell? ⟨b, 1, none⟩ = some (.slice a p.C.length c) := (cells 1).trans (congrArg some HV.out)
  have cb4 : w2.cell? ⟨b, 4, none⟩ = some (.int .i64 t) := cells 4
  have cb5 : w2.cell? ⟨b, 5, none⟩ = some (.pointer (some ⟨l.pb, 0, none⟩)) := cells 5
  clear cells
  have h0 : 0 < p.C.length := by rw [HC.out]; simp
  have hbM : ¬ Only l.pb b := fun hh => absurd ((show Ty w2 b TPt from P2.out.ob.ty).one (by rw [show b = l.pb from hh]; exact Ob.ty P2.out.pc)) (by decide)
  have hXM : ¬ Only l.pb X := fun hh => absurd ((show Ty w2 X TIt from OV2.out.ty).one (by rw [show X = l.pb from hh]; exact Ob.ty P2.out.pc)) (by decide)
  have lX := OV2.out.lt
  refine wp_run (M := (Only l.pb)) (stages [([true, true, true, true, true, true, true, true, true, true, true, true, true, true, true, false, false], 15)] [false, false, false, false, false, false, false, false, false, false, false, false, false, false, false, false, true]) (by kernel_rfl) (by kernel_rfl) ?_
  refine run_stage rfl ?_
  simp only [pickAt]
  repeat (go_big_quiet_step (fail))
  refine wpQuiet_nil ?_
  refine run_want rfl ?_
  intro A hA
  go_simp
  refine (pgo_any l.pb p.pc t _ (Ob.kept P2.out.pc (Kept.drew (fun _ => False) w2) (fun h => h)) P2.out.pok).mono ?_
  rintro e w4 ⟨rfl, hp4, hk4⟩
  have K4 := Lib.hid ((Kept.drew (Only l.pb) w2).trans hk4)
  have P4 := Lib.hid (P2.out.onlyP K4.out hp4 (Pc.go_ok P2.out.pok t))
  have OV4 := Lib.hid (OV2.out.kept K4.out hXM)
  rw [HD.out]
  refine hA _ _ (hk4) ?_
  try simp only [Act.put, List.setIfInBounds_toArray, List.set_cons_zero, List.set_cons_succ]
  clear A hA
  refine run_last ?_
  simp only [pickAt]
  repeat (go_big_quiet_step (fail))
  refine wpQuiet_nil ?_
  clear hp4 hk4 lb fb cb1 cb4 cb5
  have hown := P4.out.own
  obtain ⟨g, c', hv', hBg, _, _, hgw, hgc, _⟩ := own_some hown (by omega)
  rw [HV.out] at hv' hown
  cases hv'
  obtain ⟨_, _, _, hxl, cs, hrw, hcl, hct⟩ := own_row hown
  have cells := (P4.out.ob.blk).2.1
  have fb := (P4.out.ob.blk).2.2
  have lb := P4.out.ob.lt
  have cb1 : w4.cell? ⟨b, 1, none⟩ = some (.slice (some ⟨g, 0, none⟩) p.C.length c) := (cells 1).trans (congrArg some HV.out)
  clear cells
  have g0 : ∀ j u, (x.row)[j]? = some u → w4.cell? ⟨g, j, none⟩ = some u := fun j u hj => hgc j u (by
    rw [HC.out, List.flatMap_cons]
    exact getElem?_app hj)
  have cg0 := g0 0 _ rfl
  have cg1 := g0 1 _ rfl
  have cg2 := g0 2 _ rfl
  have cg3 := g0 3 _ rfl
  have cg4 := g0 4 _ rfl
  have cg5 := g0 5 _ rfl
  have cg6 := g0 6 _ rfl
  have cg7 := g0 7 _ rfl
  have cg8 := g0 8 _ rfl
  have cg9 := g0 9 _ rfl
  have cg10 := g0 10 _ rfl
  have HRW := Lib.hid hrw
  have HCL := Lib.hid hcl
  have HCT := Lib.hid hct
  have HXL := Lib.hid hxl
  clear g0 hgc hrw hcl hct hxl hown
  go_upto_region 6 with fail
  have OI : Hid (Ob (w4.alloc (.cells #[.int .i64 x.kind, .int .i64 x.src, .int .i64 x.dst, .int .i64 x.prio, .int .u64 x.msg, .int .i64 x.off, .int .i64 x.len, .int .i64 x.total, .int .i64 x.num, .slice x.da x.dn x.dc, .int .i64 x.path] TIt)) w4.heap.size #[.int .i64 x.kind, .int .i64 x.src, .int .i64 x.dst, .int .i64 x.prio, .int .u64 x.msg, .int .i64 x.off, .int .i64 x.len, .int .i64 x.total, .int .i64 x.num, .slice x.da x.dn x.dc, .int .i64 x.path] TIt) := Lib.hid (Ob.new _ _ _)
  have KA : Hid (Kept (fun _ => False) w4 (w4.alloc (.cells #[.int .i64 x.kind, .int .i64 x.src, .int .i64 x.dst, .int .i64 x.prio, .int .u64 x.msg, .int .i64 x.off, .int .i64 x.len, .int .i64 x.total, .int .i64 x.num, .slice x.da x.dn x.dc, .int .i64 x.path] TIt))) := Lib.hid ((Kept.refl _ _).alloc _)
  have P5 := Lib.hid (P4.out.keptF KA.out)
  have OV5 := Lib.hid (OV4.out.kept KA.out (fun h => h))
  have R5 := Lib.hid (HRW.out.kept KA.out (fun h => h))
  clear lb fb cb1 cg0 cg1 cg2 cg3 cg4 cg5 cg6 cg7 cg8 cg9 cg10
  have lX4 := OV4.out.lt
  obtain ⟨Z, HZ⟩ : ∃ Z, Hid (w4.heap.size = Z) := ⟨_, Lib.hid rfl⟩
  rw [HZ.out] at OI ⊢
  generalize w4.alloc (.cells #[.int .i64 x.kind, .int .i64 x.src, .int .i64 x.dst, .int .i64 x.prio, .int .u64 x.msg, .int .i64 x.off, .int .i64 x.len, .int .i64 x.total, .int .i64 x.num, .slice x.da x.dn x.dc, .int .i64 x.path] TIt) = w5 at *
  have cells := (P5.out.ob.blk).2.1
  have fb := (P5.out.ob.blk).2.2
  have lb := P5.out.ob.lt
  have cb1 : w5.cell? ⟨b, 1, none⟩ = some (.slice (some ⟨g, 0, none⟩) p.C.length c) := (cells 1).trans (congrArg some HV.out)
  clear cells
  have h0n : 0 ≤ p.C.length := by omega
  go_wp2_with fail
  refine (delete_it g p.C.length c 0 1 cs _ R5.out HCL.out (by omega) (by omega) (by omega) (by omega) (by rw [HCT.out]; exact one_itrows _)).mono ?_
  rintro e w6 ⟨rfl, hk6, cs', hr6, hl6, ht6⟩
  have hlr : p.C.length = r.length + 1 := by rw [HC.out]; rfl
  have hn1 : p.C.length - (1 - 0) = r.length := by rw [HC.out]; simp
  rw [hn1] at ht6 ⊢
  have hgM : ∀ y, Only g y → Lm l.v y := fun y hy => by
    have : y = g := hy
    subst this
    show l.v.ownBlock = some y
    rw [HV.out]; rfl
  have K6 : Hid (Kept (Lm l.v) w5 w6) := Lib.hid (hk6.mono fun y _ hy => hgM y hy)
  have O6 : w6.ownsRow B0 TIt 11 (.slice (some ⟨g, 0, none⟩) r.length c) r.length (r.flatMap It.row) := by
    refine row_own hBg (by omega) (by omega) hr6 (by rw [hl6]; exact HCL.out) ?_
    rw [ht6]
    have h1 : cs.take (p.C.length * 11) = (x :: r).flatMap It.row := by rw [HCT.out, HC.out]
    have h2 : (x :: r).flatMap It.row = x.row ++ r.flatMap It.row := List.flatMap_cons ..
    rw [h1, h2]
    simp [It.row]
  have R6 := Lib.hid (P5.out.cred K6.out O6 (.inl (by rw [HV.out]; rfl)) (fun z hz => .inl (by show z ∈ p.C; rw [HC.out]; exact List.mem_cons_of_mem _ hz)))
  have hgb : ¬ Only g b := fun hh => absurd ((show Ty w5 b TPt from P5.out.ob.ty).one (own_ty P5.out.own (by show l.v.ownBlock = some b; exact hgM b hh))) (by decide)
  have hgX : ¬ Only g X := fun hh => by
    have h1 := ((HP.out.own).lt g (hgM g rfl)).2
    have h2 := HX.out
    have h3 : X = g := hh
    omega
  have hgZ : ¬ Only g Z := fun hh => by
    have h2 := HZ.out
    have h3 : Z = g := hh
    omega
  have hXZ : X ≠ Z := by have h2 := HZ.out; omega
  have hXb : X ≠ b := fun hh => absurd (Ty.one (hh ▸ OV5.out.ty) P5.out.ob.ty) (by decide)
  have hZb : Z ≠ b := fun hh => absurd (Ty.one (hh ▸ OI.out.ty) P5.out.ob.ty) (by decide)
  have lb6 : b < w6.heap.size := Nat.lt_of_lt_of_le lb K6.out.size
  have fb6 : ∀ i, w6.frozen? ⟨b, i, none⟩ = false := fun i => (hk6.frozen b i lb hgb).trans (fb i)
  have cb6 : w6.cell? ⟨b, 1, none⟩ = some (.slice (some ⟨g, 0, none⟩) p.C.length c) := (hk6.cell b 1 lb hgb).trans cb1
  have OV6 := Lib.hid (OV5.out.kept hk6 hgX)
  have OI6 := Lib.hid (OI.out.kept hk6 hgZ)
  clear lb fb cb1 hk6 hr6 hl6 ht6 O6
  go_upto_region 7 with fail
  have OV7 := Lib.hid (OV6.out.other ⟨b, 1, none⟩ (.slice (some ⟨g, 0, none⟩) r.length c) hXb)
  have OI7 := Lib.hid (OI6.out.other ⟨b, 1, none⟩ (.slice (some ⟨g, 0, none⟩) r.length c) hZb)
  clear lb6 fb6 cb6
  generalize w6.setCell ⟨b, 1, none⟩ (.slice (some ⟨g, 0, none⟩) r.length c) = w7 at *
  obtain ⟨lz, cz, fz⟩ := OI7.out.blk
  have cz0 : w7.cell? ⟨Z, 0, none⟩ = some (.int .i64 x.kind) := cz 0
  have cz1 : w7.cell? ⟨Z, 1, none⟩ = some (.int .i64 x.src) := cz 1
  have cz2 : w7.cell? ⟨Z, 2, none⟩ = some (.int .i64 x.dst) := cz 2
  have cz3 : w7.cell? ⟨Z, 3, none⟩ = some (.int .i64 x.prio) := cz 3
  have cz4 : w7.cell? ⟨Z, 4, none⟩ = some (.int .u64 x.msg) := cz 4
  have cz5 : w7.cell? ⟨Z, 5, none⟩ = some (.int .i64 x.off) := cz 5
  have cz6 : w7.cell? ⟨Z, 6, none⟩ = some (.int .i64 x.len) := cz 6
  have cz7 : w7.cell? ⟨Z, 7, none⟩ = some (.int .i64 x.total) := cz 7
  have cz8 : w7.cell? ⟨Z, 8, none⟩ = some (.int .i64 x.num) := cz 8
  have cz9 : w7.cell? ⟨Z, 9, none⟩ = some (.slice x.da x.dn x.dc) := cz 9
  have cz10 : w7.cell? ⟨Z, 10, none⟩ = some (.int .i64 x.path) := cz 10
  clear cz
  obtain ⟨lx, cx, fx⟩ := OV7.out.blk
  have cx0 : w7.cell? ⟨X, 0, none⟩ = some (.int .i64 0) := cx 0
  have cx1 : w7.cell? ⟨X, 1, none⟩ = some (.int .i64 0) := cx 1
  have cx2 : w7.cell? ⟨X, 2, none⟩ = some (.int .i64 0) := cx 2
  have cx3 : w7.cell? ⟨X, 3, none⟩ = some (.int .i64 0) := cx 3
  have cx4 : w7.cell? ⟨X, 4, none⟩ = some (.int .u64 0) := cx 4
  have cx5 : w7.cell? ⟨X, 5, none⟩ = some (.int .i64 0) := cx 5
  have cx6 : w7.cell? ⟨X, 6, none⟩ = some (.int .i64 0) := cx 6
  have cx7 : w7.cell? ⟨X, 7, none⟩ = some (.int .i64 0) := cx 7
  have cx8 : w7.cell? ⟨X, 8, none⟩ = some (.int .i64 0) := cx 8
  have cx9 : w7.cell? ⟨X, 9, none⟩ = some (.slice none 0 0) := cx 9
  have cx10 : w7.cell? ⟨X, 10, none⟩ = some (.int .i64 0) := cx 10
  clear cx
  go_wp2_with fail
  have hw : (((((((((((w7.setCell ⟨X, 0, none⟩ (.int .i64 x.kind)).setCell ⟨X, 1, none⟩ (.int .i64 x.src)).setCell ⟨X, 2, none⟩ (.int .i64 x.dst)).setCell ⟨X, 3, none⟩ (.int .i64 x.prio)).setCell ⟨X, 4, none⟩ (.int .u64 x.msg)).setCell ⟨X, 5, none⟩ (.int .i64 x.off)).setCell ⟨X, 6, none⟩ (.int .i64 x.len)).setCell ⟨X, 7, none⟩ (.int .i64 x.total)).setCell ⟨X, 8, none⟩ (.int .i64 x.num)).setCell ⟨X, 9, none⟩ (.slice x.da x.dn x.dc)).setCell ⟨X, 10, none⟩ (.int .i64 x.path)) = w7.setCells X 0 [.int .i64 x.kind, .int .i64 x.src, .int .i64 x.dst, .int .i64 x.prio, .int .u64 x.msg, .int .i64 x.off, .int .i64 x.len, .int .i64 x.total, .int .i64 x.num, .slice x.da x.dn x.dc, .int .i64 x.path] := rfl
  rw [hw]
  clear hw cx0 cx1 cx2 cx3 cx4 cx5 cx6 cx7 cx8 cx9 cx10 cz0 cz1 cz2 cz3 cz4 cz5 cz6 cz7 cz8 cz9 cz10 lz fz lx fx
  have OF := Lib.hid (OV7.out.sets [.int .i64 x.kind, .int .i64 x.src, .int .i64 x.dst, .int .i64 x.prio, .int .u64 x.msg, .int .i64 x.off, .int .i64 x.len, .int .i64 x.total, .int .i64 x.num, .slice x.da x.dn x.dc, .int .i64 x.path] rfl)
  obtain ⟨r1, r2, r3⟩ := R6.out
  have KF : Hid (Kept (Only X) w7 (w7.setCells X 0 [.int .i64 x.kind, .int .i64 x.src, .int .i64 x.dst, .int .i64 x.prio, .int .u64 x.msg, .int .i64 x.off, .int .i64 x.len, .int .i64 x.total, .int .i64 x.num, .slice x.da x.dn x.dc, .int .i64 x.path])) := Lib.hid ((Kept.refl (Only X) w7).setsO (X := X) (show X = X from rfl) _)
  have PF := Lib.hid (r1.local KF.out OV7.out.ty (fun hh => hgX (show X = g from (Option.some.inj hh).symm)))
  have K07 := ((((Kept.of_below (M := PM b l) HB.out).trans (K2.out.mono fun y _ hy => .inl hy)).trans (K4.out.mono fun y _ hy => .inr (.inl hy))).trans (KA.out.mono fun y _ hy => hy.elim)).trans r2
  have hs5 : w.heap.size ≤ w5.heap.size := Nat.le_trans HB.out.size (Nat.le_trans K2.out.size (Nat.le_trans K4.out.size KA.out.size))
  have KW := Lib.hid (K07.setsN (X := X) (Nat.le_of_eq HX.out) [.int .i64 x.kind, .int .i64 x.src, .int .i64 x.dst, .int .i64 x.prio, .int .u64 x.msg, .int .i64 x.off, .int .i64 x.len, .int .i64 x.total, .int .i64 x.num, .slice x.da x.dn x.dc, .int .i64 x.path])
  clear K07 r1 r2
  generalize w7.setCells X 0 [.int .i64 x.kind, .int .i64 x.src, .int .i64 x.dst, .int .i64 x.prio, .int .u64 x.msg, .int .i64 x.off, .int .i64 x.len, .int .i64 x.total, .int .i64 x.num, .slice x.da x.dn x.dc, .int .i64 x.path] = F at *
  obtain ⟨lf, cf, ff⟩ := OF.out.blk
  have cf0 : F.cell? ⟨X, 0, none⟩ = some (.int .i64 x.kind) := cf 0
  have cf1 : F.cell? ⟨X, 1, none⟩ = some (.int .i64 x.src) := cf 1
  have cf2 : F.cell? ⟨X, 2, none⟩ = some (.int .i64 x.dst) := cf 2
  have cf3 : F.cell? ⟨X, 3, none⟩ = some (.int .i64 x.prio) := cf 3
  have cf4 : F.cell? ⟨X, 4, none⟩ = some (.int .u64 x.msg) := cf 4
  have cf5 : F.cell? ⟨X, 5, none⟩ = some (.int .i64 x.off) := cf 5
  have cf6 : F.cell? ⟨X, 6, none⟩ = some (.int .i64 x.len) := cf 6
  have cf7 : F.cell? ⟨X, 7, none⟩ = some (.int .i64 x.total) := cf 7
  have cf8 : F.cell? ⟨X, 8, none⟩ = some (.int .i64 x.num) := cf 8
  have cf9 : F.cell? ⟨X, 9, none⟩ = some (.slice x.da x.dn x.dc) := cf 9
  have cf10 : F.cell? ⟨X, 10, none⟩ = some (.int .i64 x.path) := cf 10
  clear cf
  refine done (.tuple #[boxV x, .bool true]) rfl (by simp [boxV, results, Try.results39, go_sem, cf0, cf1, cf2, cf3, cf4, cf5, cf6, cf7, cf8, cf9, cf10]) ⟨rfl, _, PF.out, KW.out, fun z hz => ?_⟩
  rcases r3 z hz with h | h
  · exact .inl h
  · exact .inr (Nat.le_trans hs5 h)
end Go.Proofs.Ytoihhidoafgoaaa
/- A port (chapter 13): what the document fixes: awake. -/
namespace Go.Proofs.Ytoihhidoafgoaaa
open Go.RowKit

def cr1 : It := ⟨11, 0, 1, 0, 0, 0, 0, 0, 0, none, 0, 0, 0, []⟩
theorem Po.ge {b B0 : Nat} {l : Pl} {p : Pp} {w : World} (h : Po b B0 l p w) {x : Nat} (hx : PM b l x) : B0 ≤ x := by
  rcases hx with rfl | rfl | hx | rfl | ⟨i, hi, hx⟩
  · exact h.base
  · exact h.pbase
  · exact (h.own.lt x hx).1
  · exact h.qu.base
  · exact ((h.qu.own i hi).lt x hx).1
end Go.Proofs.Ytoihhidoafgoaaa
/- A port (chapter 13): frames put that are no credits. -/
namespace Go.Proofs.Ytoihhidoafgoaaa
open Go.RowKit

/-- the queue is another -/
theorem Po.queue {b B0 : Nat} {l : Pl} {p : Pp} {w w' : World} (h : Po b B0 l p w) (hk : Kept (QM l.q l.V) w w') {V' : Nat → Value} {u' : Int} {L' : Nat → List It} (hq : Qu l.q B0 V' p.room u' L' w') (hf : Fresh w l.V V') (hd : ∀ x i, i < 8 → x ∈ L' i → p.has x ∨ Da B0 w' x) : PoPost b B0 l { p with u := u', L := L' } w w' := by
  have hn : ∀ {g T}, Ty w g T → T ≠ 138 → T ≠ 142 → ¬ QM l.q l.V g := fun hT h1 h2 hh => by
    rcases h.qu.ty hh with h3 | h3
    · exact h1 (hT.one h3)
    · exact h2 (hT.one h3)
  have hT : ∀ g, QM l.q l.V g → g < w.heap.size → ∃ T, Ty w g T ∧ T ≠ TU := fun g hg _ => by
    rcases h.qu.ty hg with h3 | h3
    · exact ⟨_, h3, by decide⟩
    · exact ⟨_, h3, by decide⟩
  refine ⟨{ l with V := V' }, ⟨h.ob.kept hk (hn h.ob.ty (by decide) (by decide)), own_kept h.own hk fun g hg => hn (own_ty h.own hg) (by decide) (by decide), Ob.kept h.pc hk (hn (Ob.ty h.pc) (by decide) (by decide)), hq, h.base, h.pbase, h.pok, fun x hx => ?_⟩, hk.mono fun y _ hy => .inr (.inr (.inr hy)), fun x hx => ?_⟩
  · rcases hx with hx | ⟨i, hi, hx⟩
    · exact (h.data x (.inl hx)).keptT hk hT
    · rcases hd x i hi hx with hx | hx
      · exact (h.data x hx).keptT hk hT
      · exact hx
  · rcases hx with hx | hx | hx | hx | ⟨i, hi, hx⟩
    · exact .inl (.inl hx)
    · exact .inl (.inr (.inl hx))
    · exact .inl (.inr (.inr (.inl hx)))
    · exact .inl (.inr (.inr (.inr (.inl hx))))
    · rcases hf i hi with h3 | h3
      · exact .inl (.inr (.inr (.inr (.inr ⟨i, hi, by rw [← h3]; exact hx⟩))))
      · exact .inr (h3 x hx)
theorem PoPost.before {b B0 : Nat} {l : Pl} {p : Pp} {w w1 w' : World} (h : PoPost b B0 l p w1 w') (hb : Below w.heap.size w w1) : PoPost b B0 l p w w' := by
  obtain ⟨l', h1, h2, h3⟩ := h
  refine ⟨l', h1, (Kept.of_below hb).trans h2, fun x hx => ?_⟩
  rcases h3 x hx with h | h
  · exact .inl h
  · exact .inr (Nat.le_trans hb.size h)
def PutQ (b B0 : Nat) (l : Pl) (p : Pp) (i : Nat) (x : It) (w : World) (e : Ending) (w' : World) : Prop := e = .returned (.int .i64 1) ∧ ∃ a c, PoPost b B0 l { p with u := p.u + x.sz, L := upd p.L i (p.L i ++ [x.data a c]) } w w'
set_option maxRecDepth 100000 in
set_option maxHeartbeats 4000000 in
theorem put_line (b B0 : Nat) (l : Pl) (p : Pp) (i : Nat) (x : It) (w : World) (h : Po b B0 l p w) (hr : Rd w 1 (.slice x.da x.dn x.dc) x.dn (bcells x.bs)) (hn : x.dn ≤ 1073741824) (hk : (x.kind == 11) = false) (hxl : -1000000000 ≤ x.len ∧ x.len ≤ 1073741824) (hi : i < 8) (hp : clampI x.prio 0 7 = i) (hroom : 0 ≤ p.room ∧ p.room ≤ 1099511627776) (hu : 0 ≤ p.u ∧ p.u ≤ p.room) (hf : x.sz ≤ p.room - p.u) (hlen : (p.L i).length ≤ 1000000) : Calls Try.prog 38 #[.pointer (some ⟨b, 0, none⟩), x.val] w (PutQ b B0 l p i x w) := by
  unfold It.val
  have HP := Lib.hid h
  have HR := Lib.hid hr
  have HI := Lib.hid hp
  clear h hr hp
  go_enter Try.func38, Try.ntmps38
  go_upto_region 1 with fail
  have OX := Lib.hid (Ob.new w #[.int .i64 x.kind, .int .i64 x.src, .int .i64 x.dst, .int .i64 x.prio, .int .u64 x.msg, .int .i64 x.off, .int .i64 x.len, .int .i64 x.total, .int .i64 x.num, .slice x.da x.dn x.dc, .int .i64 x.path] TIt)
  have HB := Lib.hid ((Below.refl w.heap.size w).alloc (Nat.le_refl _) (.cells #[.int .i64 x.kind, .int .i64 x.src, .int .i64 x.dst, .int .i64 x.prio, .int .u64 x.msg, .int .i64 x.off, .int .i64 x.len, .int .i64 x.total, .int .i64 x.num, .slice x.da x.dn x.dc, .int .i64 x.path] TIt))
  have P1 := Lib.hid (HP.out.below HB.out)
  have R1 := Lib.hid (HR.out.below HB.out)
  generalize w.alloc (.cells #[.int .i64 x.kind, .int .i64 x.src, .int .i64 x.dst, .int .i64 x.prio, .int .u64 x.msg, .int .i64 x.off, .int .i64 x.len, .int .i64 x.total, .int .i64 x.num, .slice x.da x.dn x.dc, .int .i64 x.path] TIt) = w1 at *
  obtain ⟨X, HX⟩ : ∃ X, Hid (w.heap.size = X) := ⟨_, Lib.hid rfl⟩
  rw [HX.out] at OX ⊢
  obtain ⟨lx, cx, fx⟩ := OX.out.blk
  have cx0 : w1.cell? ⟨X, 0, none⟩ = some (.int .i64 x.kind) := cx 0
  have cx1 : w1.cell? ⟨X, 1, none⟩ = some (.int .i64 x.src) := cx 1
  have cx2 : w1.cell? ⟨X, 2, none⟩ = some (.int .i64 x.dst) := cx 2
  have cx3 : w1.cell? ⟨X, 3, none⟩ = some (.int .i64 x.prio) := cx 3
  have cx4 : w1.cell? ⟨X, 4, none⟩ = some (.int .u64 x.msg) := cx 4
  have cx5 : w1.cell? ⟨X, 5, none⟩ = some (.int .i64 x.off) := cx 5
  have cx6 : w1.cell? ⟨X, 6, none⟩ = some (.int .i64 x.len) := cx 6
  have cx7 : w1.cell? ⟨X, 7, none⟩ = some (.int .i64 x.total) := cx 7
  have cx8 : w1.cell? ⟨X, 8, none⟩ = some (.int .i64 x.num) := cx 8
  have cx9 : w1.cell? ⟨X, 9, none⟩ = some (.slice x.da x.dn x.dc) := cx 9
  have cx10 : w1.cell? ⟨X, 10, none⟩ = some (.int .i64 x.path) := cx 10
  clear cx
  have cells := (P1.out.ob.blk).2.1
  have lb := P1.out.ob.lt
  have cb0 : w1.cell? ⟨b, 0, none⟩ = some (.pointer (some ⟨l.q, 0, none⟩)) := cells 0
  clear cells
  go_wp2_with fail
  refine wp_region_quiet_lit (by kernel_rfl) (by kernel_rfl) ?_
  try simp only [List.append]
  repeat (first | go_big_quiet_step (fail) | quiet_step (fail))
  refine wpQuiet_nil ?_
  intro W hW
  have PW : Hid (Po b B0 l p W) := by obtain ⟨n, rfl⟩ := hW; exact Lib.hid (P1.out.keptF (Kept.dn _ _ _))
  have RW : Hid (Rd W 1 (.slice x.da x.dn x.dc) x.dn (bcells x.bs)) := by obtain ⟨n, rfl⟩ := hW; exact Lib.hid R1.out.dn
  have OW : Hid (Ob W X #[.int .i64 x.kind, .int .i64 x.src, .int .i64 x.dst, .int .i64 x.prio, .int .u64 x.msg, .int .i64 x.off, .int .i64 x.len, .int .i64 x.total, .int .i64 x.num, .slice x.da x.dn x.dc, .int .i64 x.path] TIt) := by obtain ⟨n, rfl⟩ := hW; exact Lib.hid OX.out.dn
  have HBW : Hid (Below w.heap.size w W) := by obtain ⟨n, rfl⟩ := hW; exact Lib.hid (below_dn HB.out)
  clear hW lx fx cx0 cx1 cx2 cx3 cx4 cx5 cx6 cx7 cx8 cx9 cx10 lb cb0
  obtain ⟨lx, cx, fx⟩ := OW.out.blk
  have cx0 : W.cell? ⟨X, 0, none⟩ = some (.int .i64 x.kind) := cx 0
  have cx1 : W.cell? ⟨X, 1, none⟩ = some (.int .i64 x.src) := cx 1
  have cx2 : W.cell? ⟨X, 2, none⟩ = some (.int .i64 x.dst) := cx 2
  have cx3 : W.cell? ⟨X, 3, none⟩ = some (.int .i64 x.prio) := cx 3
  have cx4 : W.cell? ⟨X, 4, none⟩ = some (.int .u64 x.msg) := cx 4
  have cx5 : W.cell? ⟨X, 5, none⟩ = some (.int .i64 x.off) := cx 5
  have cx6 : W.cell? ⟨X, 6, none⟩ = some (.int .i64 x.len) := cx 6
  have cx7 : W.cell? ⟨X, 7, none⟩ = some (.int .i64 x.total) := cx 7
  have cx8 : W.cell? ⟨X, 8, none⟩ = some (.int .i64 x.num) := cx 8
  have cx9 : W.cell? ⟨X, 9, none⟩ = some (.slice x.da x.dn x.dc) := cx 9
  have cx10 : W.cell? ⟨X, 10, none⟩ = some (.int .i64 x.path) := cx 10
  clear cx
  have cells := (PW.out.ob.blk).2.1
  have lb := PW.out.ob.lt
  have cb0 : W.cell? ⟨b, 0, none⟩ = some (.pointer (some ⟨l.q, 0, none⟩)) := cells 0
  clear cells
  go_wp2_with fail
  have hbM : ¬ QM l.q l.V b := fun hh => by
    rcases PW.out.qu.ty hh with h3 | h3
    · exact absurd (h3.one PW.out.ob.ty) (by decide)
    · exact absurd (h3.one PW.out.ob.ty) (by decide)
  have hXM : ¬ QM l.q l.V X := fun hh => by
    rcases PW.out.qu.ty hh with h3 | h3
    · exact absurd (h3.one OW.out.ty) (by decide)
    · exact absurd (h3.one OW.out.ty) (by decide)
  refine wp_run (M := (QM l.q l.V)) (stages [([true, true, true, true, true, true, true, false, true, false, false, false, false], 7), ([false, false, false, false, false, false, false, false, false, false, false, false, false], 9), ([false, false, false, false, false, false, false, false, false, false, false, false, false], 10)] [false, false, false, false, false, false, false, false, false, false, false, true, true]) (by kernel_rfl) (by kernel_rfl) ?_
  refine run_stage rfl ?_
  simp only [pickAt]
  repeat (go_big_quiet_step (fail))
  refine wpQuiet_nil ?_
  refine run_want rfl ?_
  intro A hA
  go_simp
  refine (clamp_any _ _ _ _).mono ?_
  rintro e w' ⟨rfl, rfl⟩
  rw [HI.out]
  refine hA _ _ ((Kept.refl _ _)) ?_
  try simp only [Act.put, List.setIfInBounds_toArray, List.set_cons_zero, List.set_cons_succ]
  clear A hA
  refine run_stage rfl ?_
  simp only [pickAt]
  repeat (go_big_quiet_step (fail))
  refine wpQuiet_nil ?_
  refine run_want rfl ?_
  intro A hA
  go_simp
  have hown := pown x x.bs W.drew (RW.out.kept (Kept.drew (fun _ => False) W) (fun _ _ _ _ h => h)) hn
  unfold It.val at hown
  refine hown.mono ?_
  rintro e w6 ⟨a6, c6, rfl, ho6, hb6⟩
  clear hown
  obtain ⟨y, hy⟩ : ∃ y, x.data a6 c6 = y := ⟨_, rfl⟩
  have HY := Lib.hid hy
  have hd6 : Da B0 w6 y := by
    rw [← hy]
    exact own_baseP ho6 (Nat.le_trans PW.out.base (Nat.le_of_lt lb))
  have hyl : -1000000000 ≤ y.len ∧ y.len ≤ 1073741824 := by rw [← hy]; exact hxl
  have hys : y.sz = x.sz := by rw [← hy]; rfl
  rw [hy]
  clear hy
  have K6 := Lib.hid ((Kept.drew (QM l.q l.V) W).trans (Kept.of_below hb6))
  have P6 := Lib.hid (PW.out.keptF ((Kept.drew _ W).trans (Kept.of_below hb6)))
  have B6 := Lib.hid ((below_dn (n := 1) HBW.out).trans (hb6.mono HBW.out.size))
  have D6 := Lib.hid hd6
  refine hA _ _ (Kept.of_below hb6) ?_
  try simp only [Act.put, List.setIfInBounds_toArray, List.set_cons_zero, List.set_cons_succ]
  clear A hA
  clear hb6 ho6 hd6
  refine run_stage rfl ?_
  simp only [pickAt]
  repeat (go_big_quiet_step (fail))
  refine wpQuiet_nil ?_
  refine run_want rfl ?_
  intro A hA
  go_simp
  refine (push_yes l.q B0 l.V p.room p.u p.L i y _ P6.out.qu hyl hi hroom hu (by rw [hys]; exact hf) hlen).mono ?_
  rintro e w7 ⟨rfl, V7, Q7, K7, F7⟩
  have P7 := Lib.hid (P6.out.queue K7 Q7 F7 (fun z j hj hz => by
    by_cases hji : j = i
    · subst hji
      rw [upd_same] at hz
      rcases List.mem_append.1 hz with hz | hz
      · exact .inl (.inr ⟨j, hj, hz⟩)
      · rw [List.mem_singleton.1 hz]
        exact .inr (D6.out.keptT K7 fun g hg _ => by
          rcases P6.out.qu.ty hg with h3 | h3
          · exact ⟨_, h3, by decide⟩
          · exact ⟨_, h3, by decide⟩)
    · rw [upd_other _ _ hji] at hz
      exact .inl (.inr ⟨j, hj, hz⟩)))
  refine hA _ _ (K7) ?_
  try simp only [Act.put, List.setIfInBounds_toArray, List.set_cons_zero, List.set_cons_succ]
  clear A hA
  clear Q7 K7 F7
  refine run_last ?_
  simp only [pickAt]
  repeat (go_big_quiet_step (fail))
  refine wpQuiet_nil ?_
  go_wp2_with fail
  go_ret
  refine ⟨rfl, a6, c6, ?_⟩
  have := P7.out.before B6.out
  rw [hys] at this
  rw [HY.out]
  exact this
end Go.Proofs.Ytoihhidoafgoaaa
/- A port (chapter 13): frames taken from the lines. -/
namespace Go.Proofs.Ytoihhidoafgoaaa
open Go.RowKit

/-- what a port gives from its lines -/
def TakeQ (b B0 : Nat) (l : Pl) (p : Pp) (w : World) (e : Ending) (w' : World) : Prop :=
  (e = .returned (.tuple #[noBox, .bool false]) ∧ (∀ i, i < 8 → p.L i = []) ∧ PoPost b B0 l p w w') ∨
    ∃ (i : Nat) (x : It) (r : List It), i < 8 ∧ p.L i = x :: r ∧ (∀ j, i < j → j < 8 → p.L j = []) ∧ e = .returned (.tuple #[boxV x, .bool true]) ∧ PoPost b B0 l { p with u := p.u - x.sz, L := upd p.L i r } w w'
set_option maxRecDepth 100000 in
set_option maxHeartbeats 4000000 in
theorem take_q0 (b B0 : Nat) (l : Pl) (p : Pp) (now t : Int) (w : World) (h : Po b B0 l p w) (hC : p.C.length = 0) (ht : max p.now now = t) (hu : ∀ i x r, i < 8 → p.L i = x :: r → x.sz ≤ p.u) (hu2 : p.u ≤ 1099511627776) : Calls Try.prog 39 #[.pointer (some ⟨b, 0, none⟩), .int .i64 now] w (TakeQ b B0 l { p with now := t } w) := by
  have HP := Lib.hid h
  have HT := Lib.hid ht
  have HU := Lib.hid hu
  clear h ht hu
  go_enter Try.func39, Try.ntmps39
  go_upto_region 1 with fail
  have OV := Lib.hid (Ob.new w #[.int .i64 0, .int .i64 0, .int .i64 0, .int .i64 0, .int .u64 0, .int .i64 0, .int .i64 0, .int .i64 0, .int .i64 0, .slice none 0 0, .int .i64 0] TIt)
  have HB := Lib.hid ((Below.refl w.heap.size w).alloc (Nat.le_refl _) (.cells #[.int .i64 0, .int .i64 0, .int .i64 0, .int .i64 0, .int .u64 0, .int .i64 0, .int .i64 0, .int .i64 0, .int .i64 0, .slice none 0 0, .int .i64 0] TIt))
  have P1 := Lib.hid (HP.out.below HB.out)
  generalize w.alloc (.cells #[.int .i64 0, .int .i64 0, .int .i64 0, .int .i64 0, .int .u64 0, .int .i64 0, .int .i64 0, .int .i64 0, .int .i64 0, .slice none 0 0, .int .i64 0] TIt) = w1 at *
  obtain ⟨X, HX⟩ : ∃ X, Hid (w.heap.size = X) := ⟨_, Lib.hid rfl⟩
  rw [HX.out] at OV ⊢
  obtain ⟨a, c, hv, _, _⟩ := P1.out.form
  have cells := (P1.out.ob.blk).2.1
  have fb := (P1.out.ob.blk).2.2
  have lb := P1.out.ob.lt
  have cb0 : w1.cell? ⟨b, 0, none⟩ = some (.pointer (some ⟨l.q, 0, none⟩)) := cells 0
  have cb4 : w1.cell? ⟨b, 4, none⟩ = some (.int .i64 p.now) := cells 4
  have HV := Lib.hid hv
  clear cells hv
  go_upto_region 4 with fail
  rw [HT.out]
  have K2 : Hid (Kept (Only b) w1 (w1.setCell ⟨b, 4, none⟩ (.int .i64 t))) := Lib.hid (Kept.refl _ _).setO
  have P2 := Lib.hid (P1.out.onlyB K2.out (p' := { p with now := t }) (Ob.set P1.out.ob 4 _) rfl rfl rfl rfl rfl)
  have OV2 := Lib.hid (OV.out.other ⟨b, 4, none⟩ (.int .i64 t) (fun hh => absurd (Ty.one (hh ▸ OV.out.ty) P1.out.ob.ty) (by decide)))
  clear lb fb cb0 cb4
  generalize w1.setCell ⟨b, 4, none⟩ (.int .i64 t) = w2 at *
  have cells := (P2.out.ob.blk).2.1
  have fb := (P2.out.ob.blk).2.2
  have lb := P2.out.ob.lt
  have cb1 : w2.cell? ⟨b, 1, none⟩ = some (.slice a p.C.length c) := (cells 1).trans (congrArg some HV.out)
  have cb4 : w2.cell? ⟨b, 4, none⟩ = some (.int .i64 t) := cells 4
  have cb5 : w2.cell? ⟨b, 5, none⟩ = some (.pointer (some ⟨l.pb, 0, none⟩)) := cells 5
  clear cells
  have lX := OV2.out.lt
  rw [hC] at cb1
  refine wp_region_quiet_lit (by kernel_rfl) (by kernel_rfl) ?_
  try simp only [List.append]
  repeat (first | go_big_quiet_step (fail) | quiet_step (fail))
  refine wpQuiet_nil ?_
  intro w4 hw4
  have P4 : Hid (Po b B0 l { p with now := t } w4) := by obtain ⟨n, rfl⟩ := hw4; exact Lib.hid (P2.out.keptF (Kept.dn _ _ _))
  have OV4 : Hid (Ob w4 X #[.int .i64 0, .int .i64 0, .int .i64 0, .int .i64 0, .int .u64 0, .int .i64 0, .int .i64 0, .int .i64 0, .int .i64 0, .slice none 0 0, .int .i64 0] TIt) := by obtain ⟨n, rfl⟩ := hw4; exact Lib.hid OV2.out.dn
  have K4 : Hid (Kept (PM b l) w w4) := by obtain ⟨n, rfl⟩ := hw4; exact Lib.hid (((Kept.of_below HB.out).trans (K2.out.mono fun y _ hy => .inl hy)).dnR n)
  clear hw4 lb fb cb1 cb4 cb5 lX
  have lXw := OV4.out.lt
  have hvX : ∀ y, PM b l y → y ≠ X := fun y hy hh => by
    subst hh
    obtain ⟨T, ⟨cs, hT⟩, _⟩ := HP.out.ty hy
    have := heap_lt hT
    have := HX.out
    omega
  have hqX : ¬ QM l.q l.V X := fun hh => hvX X (.inr (.inr (.inr hh))) rfl
  have cells := (P4.out.ob.blk).2.1
  have lb := P4.out.ob.lt
  have cb0 : w4.cell? ⟨b, 0, none⟩ = some (.pointer (some ⟨l.q, 0, none⟩)) := cells 0
  clear cells
  go_wp2_with fail
  refine (pop_any l.q B0 l.V p.room p.u p.L w4 P4.out.qu HU.out hu2).mono ?_
  intro e w5 hpop
  rcases hpop with ⟨rfl, hnone, hb5⟩ | ⟨i, x, r, V', hi, hL, hab, rfl, hq5, hk5, hf5⟩
  · have P5 := Lib.hid (P4.out.below hb5)
    have OV5 := Lib.hid (OV4.out.below hb5)
    have K5 := Lib.hid (K4.out.trans (Kept.of_below hb5))
    have HN := Lib.hid hnone
    clear hb5 hnone lb cb0
    unfold noBox
    go_upto_region 9 with fail
    have OI : Hid (Ob (w5.alloc (.cells #[.int .i64 0, .int .i64 0, .int .i64 0, .int .i64 0, .int .u64 0, .int .i64 0, .int .i64 0, .int .i64 0, .int .i64 0, .slice none 0 0, .int .i64 0] TIt)) w5.heap.size #[.int .i64 0, .int .i64 0, .int .i64 0, .int .i64 0, .int .u64 0, .int .i64 0, .int .i64 0, .int .i64 0, .int .i64 0, .slice none 0 0, .int .i64 0] TIt) := Lib.hid (Ob.new _ _ _)
    have P6 := Lib.hid (P5.out.keptF ((Kept.refl _ _).alloc (.cells #[.int .i64 0, .int .i64 0, .int .i64 0, .int .i64 0, .int .u64 0, .int .i64 0, .int .i64 0, .int .i64 0, .int .i64 0, .slice none 0 0, .int .i64 0] TIt)))
    have OV6 := Lib.hid (OV5.out.alloc (.cells #[.int .i64 0, .int .i64 0, .int .i64 0, .int .i64 0, .int .u64 0, .int .i64 0, .int .i64 0, .int .i64 0, .int .i64 0, .slice none 0 0, .int .i64 0] TIt))
    have K6 := Lib.hid (K5.out.alloc (.cells #[.int .i64 0, .int .i64 0, .int .i64 0, .int .i64 0, .int .u64 0, .int .i64 0, .int .i64 0, .int .i64 0, .int .i64 0, .slice none 0 0, .int .i64 0] TIt))
    obtain ⟨Z, HZ⟩ : ∃ Z, Hid (w5.heap.size = Z) := ⟨_, Lib.hid rfl⟩
    rw [HZ.out] at OI ⊢
    generalize w5.alloc (.cells #[.int .i64 0, .int .i64 0, .int .i64 0, .int .i64 0, .int .u64 0, .int .i64 0, .int .i64 0, .int .i64 0, .int .i64 0, .slice none 0 0, .int .i64 0] TIt) = w6 at *
    obtain ⟨lz, cz, fz⟩ := OI.out.blk
    have cz0 : w6.cell? ⟨Z, 0, none⟩ = some (.int .i64 0) := cz 0
    have cz1 : w6.cell? ⟨Z, 1, none⟩ = some (.int .i64 0) := cz 1
    have cz2 : w6.cell? ⟨Z, 2, none⟩ = some (.int .i64 0) := cz 2
    have cz3 : w6.cell? ⟨Z, 3, none⟩ = some (.int .i64 0) := cz 3
    have cz4 : w6.cell? ⟨Z, 4, none⟩ = some (.int .u64 0) := cz 4
    have cz5 : w6.cell? ⟨Z, 5, none⟩ = some (.int .i64 0) := cz 5
    have cz6 : w6.cell? ⟨Z, 6, none⟩ = some (.int .i64 0) := cz 6
    have cz7 : w6.cell? ⟨Z, 7, none⟩ = some (.int .i64 0) := cz 7
    have cz8 : w6.cell? ⟨Z, 8, none⟩ = some (.int .i64 0) := cz 8
    have cz9 : w6.cell? ⟨Z, 9, none⟩ = some (.slice none 0 0) := cz 9
    have cz10 : w6.cell? ⟨Z, 10, none⟩ = some (.int .i64 0) := cz 10
    clear cz
    obtain ⟨lx, cx, fx⟩ := OV6.out.blk
    have cx0 : w6.cell? ⟨X, 0, none⟩ = some (.int .i64 0) := cx 0
    have cx1 : w6.cell? ⟨X, 1, none⟩ = some (.int .i64 0) := cx 1
    have cx2 : w6.cell? ⟨X, 2, none⟩ = some (.int .i64 0) := cx 2
    have cx3 : w6.cell? ⟨X, 3, none⟩ = some (.int .i64 0) := cx 3
    have cx4 : w6.cell? ⟨X, 4, none⟩ = some (.int .u64 0) := cx 4
    have cx5 : w6.cell? ⟨X, 5, none⟩ = some (.int .i64 0) := cx 5
    have cx6 : w6.cell? ⟨X, 6, none⟩ = some (.int .i64 0) := cx 6
    have cx7 : w6.cell? ⟨X, 7, none⟩ = some (.int .i64 0) := cx 7
    have cx8 : w6.cell? ⟨X, 8, none⟩ = some (.int .i64 0) := cx 8
    have cx9 : w6.cell? ⟨X, 9, none⟩ = some (.slice none 0 0) := cx 9
    have cx10 : w6.cell? ⟨X, 10, none⟩ = some (.int .i64 0) := cx 10
    clear cx
    go_wp2_with fail
    have hw : (((((((((((w6.setCell ⟨X, 0, none⟩ (.int .i64 0)).setCell ⟨X, 1, none⟩ (.int .i64 0)).setCell ⟨X, 2, none⟩ (.int .i64 0)).setCell ⟨X, 3, none⟩ (.int .i64 0)).setCell ⟨X, 4, none⟩ (.int .u64 0)).setCell ⟨X, 5, none⟩ (.int .i64 0)).setCell ⟨X, 6, none⟩ (.int .i64 0)).setCell ⟨X, 7, none⟩ (.int .i64 0)).setCell ⟨X, 8, none⟩ (.int .i64 0)).setCell ⟨X, 9, none⟩ (.slice none 0 0)).setCell ⟨X, 10, none⟩ (.int .i64 0)) = w6.setCells X 0 [.int .i64 0, .int .i64 0, .int .i64 0, .int .i64 0, .int .u64 0, .int .i64 0, .int .i64 0, .int .i64 0, .int .i64 0, .slice none 0 0, .int .i64 0] := rfl
    rw [hw]
    clear hw cx0 cx1 cx2 cx3 cx4 cx5 cx6 cx7 cx8 cx9 cx10 cz0 cz1 cz2 cz3 cz4 cz5 cz6 cz7 cz8 cz9 cz10 lz fz lx fx
    have OF := Lib.hid (OV6.out.sets [.int .i64 0, .int .i64 0, .int .i64 0, .int .i64 0, .int .u64 0, .int .i64 0, .int .i64 0, .int .i64 0, .int .i64 0, .slice none 0 0, .int .i64 0] rfl)
    have PF := Lib.hid (P6.out.local ((Kept.refl (Only X) w6).setsO (X := X) (show X = X from rfl) [.int .i64 0, .int .i64 0, .int .i64 0, .int .i64 0, .int .u64 0, .int .i64 0, .int .i64 0, .int .i64 0, .int .i64 0, .slice none 0 0, .int .i64 0]) OV6.out.ty (fun hh => hvX X (.inr (.inr (.inl hh))) rfl))
    have KF := Lib.hid (K6.out.setsN (X := X) (Nat.le_of_eq HX.out) [.int .i64 0, .int .i64 0, .int .i64 0, .int .i64 0, .int .u64 0, .int .i64 0, .int .i64 0, .int .i64 0, .int .i64 0, .slice none 0 0, .int .i64 0])
    generalize w6.setCells X 0 [.int .i64 0, .int .i64 0, .int .i64 0, .int .i64 0, .int .u64 0, .int .i64 0, .int .i64 0, .int .i64 0, .int .i64 0, .slice none 0 0, .int .i64 0] = F at *
    obtain ⟨lf, cf, ff⟩ := OF.out.blk
    have cf0 : F.cell? ⟨X, 0, none⟩ = some (.int .i64 0) := cf 0
    have cf1 : F.cell? ⟨X, 1, none⟩ = some (.int .i64 0) := cf 1
    have cf2 : F.cell? ⟨X, 2, none⟩ = some (.int .i64 0) := cf 2
    have cf3 : F.cell? ⟨X, 3, none⟩ = some (.int .i64 0) := cf 3
    have cf4 : F.cell? ⟨X, 4, none⟩ = some (.int .u64 0) := cf 4
    have cf5 : F.cell? ⟨X, 5, none⟩ = some (.int .i64 0) := cf 5
    have cf6 : F.cell? ⟨X, 6, none⟩ = some (.int .i64 0) := cf 6
    have cf7 : F.cell? ⟨X, 7, none⟩ = some (.int .i64 0) := cf 7
    have cf8 : F.cell? ⟨X, 8, none⟩ = some (.int .i64 0) := cf 8
    have cf9 : F.cell? ⟨X, 9, none⟩ = some (.slice none 0 0) := cf 9
    have cf10 : F.cell? ⟨X, 10, none⟩ = some (.int .i64 0) := cf 10
    clear cf
    exact done (.tuple #[noBox, .bool false]) rfl (by simp [noBox, results, Try.results39, go_sem, cf0, cf1, cf2, cf3, cf4, cf5, cf6, cf7, cf8, cf9, cf10]) (.inl ⟨rfl, HN.out, _, PF.out, KF.out, fun z hz => .inl hz⟩)
  · have Q5 := Lib.hid (P4.out.queue (L' := upd p.L i r) (u' := p.u - x.sz) hk5 hq5 hf5 (fun z j hj hz => .inl (.inr ⟨j, hj, by
      by_cases hji : j = i
      · subst hji
        rw [upd_same] at hz
        show z ∈ p.L j
        rw [hL]
        exact List.mem_cons_of_mem _ hz
      · rw [upd_other _ _ hji] at hz
        exact hz⟩)))
    have OV5 := Lib.hid (OV4.out.kept hk5 hqX)
    have HL := Lib.hid hL
    have HA := Lib.hid hab
    clear hk5 hq5 hf5 hL hab lb cb0
    obtain ⟨l5, P5', K5', F5'⟩ := Q5.out
    have P5 := Lib.hid P5'
    have F5 := Lib.hid F5'
    have K5 := Lib.hid (K4.out.trans K5')
    have S4 := Lib.hid K4.out.size
    clear P5' K5' F5'
    unfold boxV
    go_upto_region 9 with fail
    have OI : Hid (Ob (w5.alloc (.cells #[.int .i64 x.kind, .int .i64 x.src, .int .i64 x.dst, .int .i64 x.prio, .int .u64 x.msg, .int .i64 x.off, .int .i64 x.len, .int .i64 x.total, .int .i64 x.num, .slice x.da x.dn x.dc, .int .i64 x.path] TIt)) w5.heap.size #[.int .i64 x.kind, .int .i64 x.src, .int .i64 x.dst, .int .i64 x.prio, .int .u64 x.msg, .int .i64 x.off, .int .i64 x.len, .int .i64 x.total, .int .i64 x.num, .slice x.da x.dn x.dc, .int .i64 x.path] TIt) := Lib.hid (Ob.new _ _ _)
    have P6 := Lib.hid (P5.out.keptF ((Kept.refl _ _).alloc (.cells #[.int .i64 x.kind, .int .i64 x.src, .int .i64 x.dst, .int .i64 x.prio, .int .u64 x.msg, .int .i64 x.off, .int .i64 x.len, .int .i64 x.total, .int .i64 x.num, .slice x.da x.dn x.dc, .int .i64 x.path] TIt)))
    have OV6 := Lib.hid (OV5.out.alloc (.cells #[.int .i64 x.kind, .int .i64 x.src, .int .i64 x.dst, .int .i64 x.prio, .int .u64 x.msg, .int .i64 x.off, .int .i64 x.len, .int .i64 x.total, .int .i64 x.num, .slice x.da x.dn x.dc, .int .i64 x.path] TIt))
    have K6 := Lib.hid (K5.out.alloc (.cells #[.int .i64 x.kind, .int .i64 x.src, .int .i64 x.dst, .int .i64 x.prio, .int .u64 x.msg, .int .i64 x.off, .int .i64 x.len, .int .i64 x.total, .int .i64 x.num, .slice x.da x.dn x.dc, .int .i64 x.path] TIt))
    obtain ⟨Z, HZ⟩ : ∃ Z, Hid (w5.heap.size = Z) := ⟨_, Lib.hid rfl⟩
    rw [HZ.out] at OI ⊢
    generalize w5.alloc (.cells #[.int .i64 x.kind, .int .i64 x.src, .int .i64 x.dst, .int .i64 x.prio, .int .u64 x.msg, .int .i64 x.off, .int .i64 x.len, .int .i64 x.total, .int .i64 x.num, .slice x.da x.dn x.dc, .int .i64 x.path] TIt) = w6 at *
    obtain ⟨lz, cz, fz⟩ := OI.out.blk
    have cz0 : w6.cell? ⟨Z, 0, none⟩ = some (.int .i64 x.kind) := cz 0
    have cz1 : w6.cell? ⟨Z, 1, none⟩ = some (.int .i64 x.src) := cz 1
    have cz2 : w6.cell? ⟨Z, 2, none⟩ = some (.int .i64 x.dst) := cz 2
    have cz3 : w6.cell? ⟨Z, 3, none⟩ = some (.int .i64 x.prio) := cz 3
    have cz4 : w6.cell? ⟨Z, 4, none⟩ = some (.int .u64 x.msg) := cz 4
    have cz5 : w6.cell? ⟨Z, 5, none⟩ = some (.int .i64 x.off) := cz 5
    have cz6 : w6.cell? ⟨Z, 6, none⟩ = some (.int .i64 x.len) := cz 6
    have cz7 : w6.cell? ⟨Z, 7, none⟩ = some (.int .i64 x.total) := cz 7
    have cz8 : w6.cell? ⟨Z, 8, none⟩ = some (.int .i64 x.num) := cz 8
    have cz9 : w6.cell? ⟨Z, 9, none⟩ = some (.slice x.da x.dn x.dc) := cz 9
    have cz10 : w6.cell? ⟨Z, 10, none⟩ = some (.int .i64 x.path) := cz 10
    clear cz
    obtain ⟨lx, cx, fx⟩ := OV6.out.blk
    have cx0 : w6.cell? ⟨X, 0, none⟩ = some (.int .i64 0) := cx 0
    have cx1 : w6.cell? ⟨X, 1, none⟩ = some (.int .i64 0) := cx 1
    have cx2 : w6.cell? ⟨X, 2, none⟩ = some (.int .i64 0) := cx 2
    have cx3 : w6.cell? ⟨X, 3, none⟩ = some (.int .i64 0) := cx 3
    have cx4 : w6.cell? ⟨X, 4, none⟩ = some (.int .u64 0) := cx 4
    have cx5 : w6.cell? ⟨X, 5, none⟩ = some (.int .i64 0) := cx 5
    have cx6 : w6.cell? ⟨X, 6, none⟩ = some (.int .i64 0) := cx 6
    have cx7 : w6.cell? ⟨X, 7, none⟩ = some (.int .i64 0) := cx 7
    have cx8 : w6.cell? ⟨X, 8, none⟩ = some (.int .i64 0) := cx 8
    have cx9 : w6.cell? ⟨X, 9, none⟩ = some (.slice none 0 0) := cx 9
    have cx10 : w6.cell? ⟨X, 10, none⟩ = some (.int .i64 0) := cx 10
    clear cx
    go_wp2_with fail
    have hw : (((((((((((w6.setCell ⟨X, 0, none⟩ (.int .i64 x.kind)).setCell ⟨X, 1, none⟩ (.int .i64 x.src)).setCell ⟨X, 2, none⟩ (.int .i64 x.dst)).setCell ⟨X, 3, none⟩ (.int .i64 x.prio)).setCell ⟨X, 4, none⟩ (.int .u64 x.msg)).setCell ⟨X, 5, none⟩ (.int .i64 x.off)).setCell ⟨X, 6, none⟩ (.int .i64 x.len)).setCell ⟨X, 7, none⟩ (.int .i64 x.total)).setCell ⟨X, 8, none⟩ (.int .i64 x.num)).setCell ⟨X, 9, none⟩ (.slice x.da x.dn x.dc)).setCell ⟨X, 10, none⟩ (.int .i64 x.path)) = w6.setCells X 0 [.int .i64 x.kind, .int .i64 x.src, .int .i64 x.dst, .int .i64 x.prio, .int .u64 x.msg, .int .i64 x.off, .int .i64 x.len, .int .i64 x.total, .int .i64 x.num, .slice x.da x.dn x.dc, .int .i64 x.path] := rfl
    rw [hw]
    clear hw cx0 cx1 cx2 cx3 cx4 cx5 cx6 cx7 cx8 cx9 cx10 cz0 cz1 cz2 cz3 cz4 cz5 cz6 cz7 cz8 cz9 cz10 lz fz lx fx
    have OF := Lib.hid (OV6.out.sets [.int .i64 x.kind, .int .i64 x.src, .int .i64 x.dst, .int .i64 x.prio, .int .u64 x.msg, .int .i64 x.off, .int .i64 x.len, .int .i64 x.total, .int .i64 x.num, .slice x.da x.dn x.dc, .int .i64 x.path] rfl)
    have PF := Lib.hid (P6.out.local ((Kept.refl (Only X) w6).setsO (X := X) (show X = X from rfl) [.int .i64 x.kind, .int .i64 x.src, .int .i64 x.dst, .int .i64 x.prio, .int .u64 x.msg, .int .i64 x.off, .int .i64 x.len, .int .i64 x.total, .int .i64 x.num, .slice x.da x.dn x.dc, .int .i64 x.path]) OV6.out.ty (fun hh => by
      rcases F5.out X (.inr (.inr (.inl hh))) with h | h
      · exact hvX X h rfl
      · have := lXw
        omega))
    have KF := Lib.hid (K6.out.setsN (X := X) (Nat.le_of_eq HX.out) [.int .i64 x.kind, .int .i64 x.src, .int .i64 x.dst, .int .i64 x.prio, .int .u64 x.msg, .int .i64 x.off, .int .i64 x.len, .int .i64 x.total, .int .i64 x.num, .slice x.da x.dn x.dc, .int .i64 x.path])
    generalize w6.setCells X 0 [.int .i64 x.kind, .int .i64 x.src, .int .i64 x.dst, .int .i64 x.prio, .int .u64 x.msg, .int .i64 x.off, .int .i64 x.len, .int .i64 x.total, .int .i64 x.num, .slice x.da x.dn x.dc, .int .i64 x.path] = F at *
    obtain ⟨lf, cf, ff⟩ := OF.out.blk
    have cf0 : F.cell? ⟨X, 0, none⟩ = some (.int .i64 x.kind) := cf 0
    have cf1 : F.cell? ⟨X, 1, none⟩ = some (.int .i64 x.src) := cf 1
    have cf2 : F.cell? ⟨X, 2, none⟩ = some (.int .i64 x.dst) := cf 2
    have cf3 : F.cell? ⟨X, 3, none⟩ = some (.int .i64 x.prio) := cf 3
    have cf4 : F.cell? ⟨X, 4, none⟩ = some (.int .u64 x.msg) := cf 4
    have cf5 : F.cell? ⟨X, 5, none⟩ = some (.int .i64 x.off) := cf 5
    have cf6 : F.cell? ⟨X, 6, none⟩ = some (.int .i64 x.len) := cf 6
    have cf7 : F.cell? ⟨X, 7, none⟩ = some (.int .i64 x.total) := cf 7
    have cf8 : F.cell? ⟨X, 8, none⟩ = some (.int .i64 x.num) := cf 8
    have cf9 : F.cell? ⟨X, 9, none⟩ = some (.slice x.da x.dn x.dc) := cf 9
    have cf10 : F.cell? ⟨X, 10, none⟩ = some (.int .i64 x.path) := cf 10
    clear cf
    refine done (.tuple #[boxV x, .bool true]) rfl (by simp [boxV, results, Try.results39, go_sem, cf0, cf1, cf2, cf3, cf4, cf5, cf6, cf7, cf8, cf9, cf10]) (.inr ⟨i, x, r, hi, HL.out, HA.out, rfl, _, PF.out, KF.out, fun z hz => ?_⟩)
    rcases F5.out z hz with h | h
    · exact .inl h
    · exact .inr (Nat.le_trans S4.out h)
set_option maxRecDepth 100000 in
set_option maxHeartbeats 4000000 in
theorem take_q1 (b B0 : Nat) (l : Pl) (p : Pp) (now t : Int) (w : World) (h : Po b B0 l p w) (hC : 0 < p.C.length) (hd : p.pc.due t = false) (ht : max p.now now = t) (hu : ∀ i x r, i < 8 → p.L i = x :: r → x.sz ≤ p.u) (hu2 : p.u ≤ 1099511627776) : Calls Try.prog 39 #[.pointer (some ⟨b, 0, none⟩), .int .i64 now] w (TakeQ b B0 l { p with now := t, pc := p.pc.go t } w) := by
  have HD := Lib.hid hd
  clear hd
  have HP := Lib.hid h
  have HT := Lib.hid ht
  have HU := Lib.hid hu
  clear h ht hu
  go_enter Try.func39, Try.ntmps39
  go_upto_region 1 with fail
  have OV := Lib.hid (Ob.new w #[.int .i64 0, .int .i64 0, .int .i64 0, .int .i64 0, .int .u64 0, .int .i64 0, .int .i64 0, .int .i64 0, .int .i64 0, .slice none 0 0, .int .i64 0] TIt)
  have HB := Lib.hid ((Below.refl w.heap.size w).alloc (Nat.le_refl _) (.cells #[.int .i64 0, .int .i64 0, .int .i64 0, .int .i64 0, .int .u64 0, .int .i64 0, .int .i64 0, .int .i64 0, .int .i64 0, .slice none 0 0, .int .i64 0] TIt))
  have P1 := Lib.hid (HP.out.below HB.out)
  generalize w.alloc (.cells #[.int .i64 0, .int .i64 0, .int .i64 0, .int .i64 0, .int .u64 0, .int .i64 0, .int .i64 0, .int .i64 0, .int .i64 0, .slice none 0 0, .int .i64 0] TIt) = w1 at *
  obtain ⟨X, HX⟩ : ∃ X, Hid (w.heap.size = X) := ⟨_, Lib.hid rfl⟩
  rw [HX.out] at OV ⊢
  obtain ⟨a, c, hv, _, _⟩ := P1.out.form
  have cells := (P1.out.ob.blk).2.1
  have fb := (P1.out.ob.blk).2.2
  have lb := P1.out.ob.lt
  have cb0 : w1.cell? ⟨b, 0, none⟩ = some (.pointer (some ⟨l.q, 0, none⟩)) := cells 0
  have cb4 : w1.cell? ⟨b, 4, none⟩ = some (.int .i64 p.now) := cells 4
  have HV := Lib.hid hv
  clear cells hv
  go_upto_region 4 with fail
  rw [HT.out]
  have K2 : Hid (Kept (Only b) w1 (w1.setCell ⟨b, 4, none⟩ (.int .i64 t))) := Lib.hid (Kept.refl _ _).setO
  have P2 := Lib.hid (P1.out.onlyB K2.out (p' := { p with now := t }) (Ob.set P1.out.ob 4 _) rfl rfl rfl rfl rfl)
  have OV2 := Lib.hid (OV.out.other ⟨b, 4, none⟩ (.int .i64 t) (fun hh => absurd (Ty.one (hh ▸ OV.out.ty) P1.out.ob.ty) (by decide)))
  clear lb fb cb0 cb4
  generalize w1.setCell ⟨b, 4, none⟩ (.int .i64 t) = w2 at *
  have cells := (P2.out.ob.blk).2.1
  have fb := (P2.out.ob.blk).2.2
  have lb := P2.out.ob.lt
  have cb1 : w2.cell? ⟨b, 1, none⟩ = some (.slice a p.C.length c) := (cells 1).trans (congrArg some HV.out)
  have cb4 : w2.cell? ⟨b, 4, none⟩ = some (.int .i64 t) := cells 4
  have cb5 : w2.cell? ⟨b, 5, none⟩ = some (.pointer (some ⟨l.pb, 0, none⟩)) := cells 5
  clear cells
  have lX := OV2.out.lt
  have hbM : ¬ Only l.pb b := fun hh => absurd ((show Ty w2 b TPt from P2.out.ob.ty).one (by rw [show b = l.pb from hh]; exact Ob.ty P2.out.pc)) (by decide)
  have hXM : ¬ Only l.pb X := fun hh => absurd ((show Ty w2 X TIt from OV2.out.ty).one (by rw [show X = l.pb from hh]; exact Ob.ty P2.out.pc)) (by decide)
  refine wp_run (M := (Only l.pb)) (stages [([true, true, true, true, true, true, true, true, true, true, true, true, true, true, true, false, false], 15)] [false, false, false, false, false, false, false, false, false, false, false, false, false, false, false, false, true]) (by kernel_rfl) (by kernel_rfl) ?_
  refine run_stage rfl ?_
  simp only [pickAt]
  repeat (go_big_quiet_step (fail))
  refine wpQuiet_nil ?_
  refine run_want rfl ?_
  intro A hA
  go_simp
  refine (pgo_any l.pb p.pc t _ (Ob.kept P2.out.pc (Kept.drew (fun _ => False) w2) (fun h => h)) P2.out.pok).mono ?_
  rintro e w4 ⟨rfl, hp4, hk4⟩
  have KP := Lib.hid ((Kept.drew (Only l.pb) w2).trans hk4)
  have P4 := Lib.hid (P2.out.onlyP KP.out hp4 (Pc.go_ok P2.out.pok t))
  have OV4 := Lib.hid (OV2.out.kept KP.out hXM)
  have K4 : Hid (Kept (PM b l) w w4) := Lib.hid (((Kept.of_below HB.out).trans (K2.out.mono fun y _ hy => .inl hy)).trans (KP.out.mono fun y _ hy => .inr (.inl hy)))
  rw [HD.out]
  refine hA _ _ (hk4) ?_
  try simp only [Act.put, List.setIfInBounds_toArray, List.set_cons_zero, List.set_cons_succ]
  clear A hA
  refine run_last ?_
  simp only [pickAt]
  repeat (go_big_quiet_step (fail))
  refine wpQuiet_nil ?_
  clear hp4 hk4 lb fb cb1 cb4 cb5 lX
  have lXw := OV4.out.lt
  have hvX : ∀ y, PM b l y → y ≠ X := fun y hy hh => by
    subst hh
    obtain ⟨T, ⟨cs, hT⟩, _⟩ := HP.out.ty hy
    have := heap_lt hT
    have := HX.out
    omega
  have hqX : ¬ QM l.q l.V X := fun hh => hvX X (.inr (.inr (.inr hh))) rfl
  have cells := (P4.out.ob.blk).2.1
  have lb := P4.out.ob.lt
  have cb0 : w4.cell? ⟨b, 0, none⟩ = some (.pointer (some ⟨l.q, 0, none⟩)) := cells 0
  clear cells
  go_wp2_with fail
  refine (pop_any l.q B0 l.V p.room p.u p.L w4 P4.out.qu HU.out hu2).mono ?_
  intro e w5 hpop
  rcases hpop with ⟨rfl, hnone, hb5⟩ | ⟨i, x, r, V', hi, hL, hab, rfl, hq5, hk5, hf5⟩
  · have P5 := Lib.hid (P4.out.below hb5)
    have OV5 := Lib.hid (OV4.out.below hb5)
    have K5 := Lib.hid (K4.out.trans (Kept.of_below hb5))
    have HN := Lib.hid hnone
    clear hb5 hnone lb cb0
    unfold noBox
    go_upto_region 9 with fail
    have OI : Hid (Ob (w5.alloc (.cells #[.int .i64 0, .int .i64 0, .int .i64 0, .int .i64 0, .int .u64 0, .int .i64 0, .int .i64 0, .int .i64 0, .int .i64 0, .slice none 0 0, .int .i64 0] TIt)) w5.heap.size #[.int .i64 0, .int .i64 0, .int .i64 0, .int .i64 0, .int .u64 0, .int .i64 0, .int .i64 0, .int .i64 0, .int .i64 0, .slice none 0 0, .int .i64 0] TIt) := Lib.hid (Ob.new _ _ _)
    have P6 := Lib.hid (P5.out.keptF ((Kept.refl _ _).alloc (.cells #[.int .i64 0, .int .i64 0, .int .i64 0, .int .i64 0, .int .u64 0, .int .i64 0, .int .i64 0, .int .i64 0, .int .i64 0, .slice none 0 0, .int .i64 0] TIt)))
    have OV6 := Lib.hid (OV5.out.alloc (.cells #[.int .i64 0, .int .i64 0, .int .i64 0, .int .i64 0, .int .u64 0, .int .i64 0, .int .i64 0, .int .i64 0, .int .i64 0, .slice none 0 0, .int .i64 0] TIt))
    have K6 := Lib.hid (K5.out.alloc (.cells #[.int .i64 0, .int .i64 0, .int .i64 0, .int .i64 0, .int .u64 0, .int .i64 0, .int .i64 0, .int .i64 0, .int .i64 0, .slice none 0 0, .int .i64 0] TIt))
    obtain ⟨Z, HZ⟩ : ∃ Z, Hid (w5.heap.size = Z) := ⟨_, Lib.hid rfl⟩
    rw [HZ.out] at OI ⊢
    generalize w5.alloc (.cells #[.int .i64 0, .int .i64 0, .int .i64 0, .int .i64 0, .int .u64 0, .int .i64 0, .int .i64 0, .int .i64 0, .int .i64 0, .slice none 0 0, .int .i64 0] TIt) = w6 at *
    obtain ⟨lz, cz, fz⟩ := OI.out.blk
    have cz0 : w6.cell? ⟨Z, 0, none⟩ = some (.int .i64 0) := cz 0
    have cz1 : w6.cell? ⟨Z, 1, none⟩ = some (.int .i64 0) := cz 1
    have cz2 : w6.cell? ⟨Z, 2, none⟩ = some (.int .i64 0) := cz 2
    have cz3 : w6.cell? ⟨Z, 3, none⟩ = some (.int .i64 0) := cz 3
    have cz4 : w6.cell? ⟨Z, 4, none⟩ = some (.int .u64 0) := cz 4
    have cz5 : w6.cell? ⟨Z, 5, none⟩ = some (.int .i64 0) := cz 5
    have cz6 : w6.cell? ⟨Z, 6, none⟩ = some (.int .i64 0) := cz 6
    have cz7 : w6.cell? ⟨Z, 7, none⟩ = some (.int .i64 0) := cz 7
    have cz8 : w6.cell? ⟨Z, 8, none⟩ = some (.int .i64 0) := cz 8
    have cz9 : w6.cell? ⟨Z, 9, none⟩ = some (.slice none 0 0) := cz 9
    have cz10 : w6.cell? ⟨Z, 10, none⟩ = some (.int .i64 0) := cz 10
    clear cz
    obtain ⟨lx, cx, fx⟩ := OV6.out.blk
    have cx0 : w6.cell? ⟨X, 0, none⟩ = some (.int .i64 0) := cx 0
    have cx1 : w6.cell? ⟨X, 1, none⟩ = some (.int .i64 0) := cx 1
    have cx2 : w6.cell? ⟨X, 2, none⟩ = some (.int .i64 0) := cx 2
    have cx3 : w6.cell? ⟨X, 3, none⟩ = some (.int .i64 0) := cx 3
    have cx4 : w6.cell? ⟨X, 4, none⟩ = some (.int .u64 0) := cx 4
    have cx5 : w6.cell? ⟨X, 5, none⟩ = some (.int .i64 0) := cx 5
    have cx6 : w6.cell? ⟨X, 6, none⟩ = some (.int .i64 0) := cx 6
    have cx7 : w6.cell? ⟨X, 7, none⟩ = some (.int .i64 0) := cx 7
    have cx8 : w6.cell? ⟨X, 8, none⟩ = some (.int .i64 0) := cx 8
    have cx9 : w6.cell? ⟨X, 9, none⟩ = some (.slice none 0 0) := cx 9
    have cx10 : w6.cell? ⟨X, 10, none⟩ = some (.int .i64 0) := cx 10
    clear cx
    go_wp2_with fail
    have hw : (((((((((((w6.setCell ⟨X, 0, none⟩ (.int .i64 0)).setCell ⟨X, 1, none⟩ (.int .i64 0)).setCell ⟨X, 2, none⟩ (.int .i64 0)).setCell ⟨X, 3, none⟩ (.int .i64 0)).setCell ⟨X, 4, none⟩ (.int .u64 0)).setCell ⟨X, 5, none⟩ (.int .i64 0)).setCell ⟨X, 6, none⟩ (.int .i64 0)).setCell ⟨X, 7, none⟩ (.int .i64 0)).setCell ⟨X, 8, none⟩ (.int .i64 0)).setCell ⟨X, 9, none⟩ (.slice none 0 0)).setCell ⟨X, 10, none⟩ (.int .i64 0)) = w6.setCells X 0 [.int .i64 0, .int .i64 0, .int .i64 0, .int .i64 0, .int .u64 0, .int .i64 0, .int .i64 0, .int .i64 0, .int .i64 0, .slice none 0 0, .int .i64 0] := rfl
    rw [hw]
    clear hw cx0 cx1 cx2 cx3 cx4 cx5 cx6 cx7 cx8 cx9 cx10 cz0 cz1 cz2 cz3 cz4 cz5 cz6 cz7 cz8 cz9 cz10 lz fz lx fx
    have OF := Lib.hid (OV6.out.sets [.int .i64 0, .int .i64 0, .int .i64 0, .int .i64 0, .int .u64 0, .int .i64 0, .int .i64 0, .int .i64 0, .int .i64 0, .slice none 0 0, .int .i64 0] rfl)
    have PF := Lib.hid (P6.out.local ((Kept.refl (Only X) w6).setsO (X := X) (show X = X from rfl) [.int .i64 0, .int .i64 0, .int .i64 0, .int .i64 0, .int .u64 0, .int .i64 0, .int .i64 0, .int .i64 0, .int .i64 0, .slice none 0 0, .int .i64 0]) OV6.out.ty (fun hh => hvX X (.inr (.inr (.inl hh))) rfl))
    have KF := Lib.hid (K6.out.setsN (X := X) (Nat.le_of_eq HX.out) [.int .i64 0, .int .i64 0, .int .i64 0, .int .i64 0, .int .u64 0, .int .i64 0, .int .i64 0, .int .i64 0, .int .i64 0, .slice none 0 0, .int .i64 0])
    generalize w6.setCells X 0 [.int .i64 0, .int .i64 0, .int .i64 0, .int .i64 0, .int .u64 0, .int .i64 0, .int .i64 0, .int .i64 0, .int .i64 0, .slice none 0 0, .int .i64 0] = F at *
    obtain ⟨lf, cf, ff⟩ := OF.out.blk
    have cf0 : F.cell? ⟨X, 0, none⟩ = some (.int .i64 0) := cf 0
    have cf1 : F.cell? ⟨X, 1, none⟩ = some (.int .i64 0) := cf 1
    have cf2 : F.cell? ⟨X, 2, none⟩ = some (.int .i64 0) := cf 2
    have cf3 : F.cell? ⟨X, 3, none⟩ = some (.int .i64 0) := cf 3
    have cf4 : F.cell? ⟨X, 4, none⟩ = some (.int .u64 0) := cf 4
    have cf5 : F.cell? ⟨X, 5, none⟩ = some (.int .i64 0) := cf 5
    have cf6 : F.cell? ⟨X, 6, none⟩ = some (.int .i64 0) := cf 6
    have cf7 : F.cell? ⟨X, 7, none⟩ = some (.int .i64 0) := cf 7
    have cf8 : F.cell? ⟨X, 8, none⟩ = some (.int .i64 0) := cf 8
    have cf9 : F.cell? ⟨X, 9, none⟩ = some (.slice none 0 0) := cf 9
    have cf10 : F.cell? ⟨X, 10, none⟩ = some (.int .i64 0) := cf 10
    clear cf
    exact done (.tuple #[noBox, .bool false]) rfl (by simp [noBox, results, Try.results39, go_sem, cf0, cf1, cf2, cf3, cf4, cf5, cf6, cf7, cf8, cf9, cf10]) (.inl ⟨rfl, HN.out, _, PF.out, KF.out, fun z hz => .inl hz⟩)
  · have Q5 := Lib.hid (P4.out.queue (L' := upd p.L i r) (u' := p.u - x.sz) hk5 hq5 hf5 (fun z j hj hz => .inl (.inr ⟨j, hj, by
      by_cases hji : j = i
      · subst hji
        rw [upd_same] at hz
        show z ∈ p.L j
        rw [hL]
        exact List.mem_cons_of_mem _ hz
      · rw [upd_other _ _ hji] at hz
        exact hz⟩)))
    have OV5 := Lib.hid (OV4.out.kept hk5 hqX)
    have HL := Lib.hid hL
    have HA := Lib.hid hab
    clear hk5 hq5 hf5 hL hab lb cb0
    obtain ⟨l5, P5', K5', F5'⟩ := Q5.out
    have P5 := Lib.hid P5'
    have F5 := Lib.hid F5'
    have K5 := Lib.hid (K4.out.trans K5')
    have S4 := Lib.hid K4.out.size
    clear P5' K5' F5'
    unfold boxV
    go_upto_region 9 with fail
    have OI : Hid (Ob (w5.alloc (.cells #[.int .i64 x.kind, .int .i64 x.src, .int .i64 x.dst, .int .i64 x.prio, .int .u64 x.msg, .int .i64 x.off, .int .i64 x.len, .int .i64 x.total, .int .i64 x.num, .slice x.da x.dn x.dc, .int .i64 x.path] TIt)) w5.heap.size #[.int .i64 x.kind, .int .i64 x.src, .int .i64 x.dst, .int .i64 x.prio, .int .u64 x.msg, .int .i64 x.off, .int .i64 x.len, .int .i64 x.total, .int .i64 x.num, .slice x.da x.dn x.dc, .int .i64 x.path] TIt) := Lib.hid (Ob.new _ _ _)
    have P6 := Lib.hid (P5.out.keptF ((Kept.refl _ _).alloc (.cells #[.int .i64 x.kind, .int .i64 x.src, .int .i64 x.dst, .int .i64 x.prio, .int .u64 x.msg, .int .i64 x.off, .int .i64 x.len, .int .i64 x.total, .int .i64 x.num, .slice x.da x.dn x.dc, .int .i64 x.path] TIt)))
    have OV6 := Lib.hid (OV5.out.alloc (.cells #[.int .i64 x.kind, .int .i64 x.src, .int .i64 x.dst, .int .i64 x.prio, .int .u64 x.msg, .int .i64 x.off, .int .i64 x.len, .int .i64 x.total, .int .i64 x.num, .slice x.da x.dn x.dc, .int .i64 x.path] TIt))
    have K6 := Lib.hid (K5.out.alloc (.cells #[.int .i64 x.kind, .int .i64 x.src, .int .i64 x.dst, .int .i64 x.prio, .int .u64 x.msg, .int .i64 x.off, .int .i64 x.len, .int .i64 x.total, .int .i64 x.num, .slice x.da x.dn x.dc, .int .i64 x.path] TIt))
    obtain ⟨Z, HZ⟩ : ∃ Z, Hid (w5.heap.size = Z) := ⟨_, Lib.hid rfl⟩
    rw [HZ.out] at OI ⊢
    generalize w5.alloc (.cells #[.int .i64 x.kind, .int .i64 x.src, .int .i64 x.dst, .int .i64 x.prio, .int .u64 x.msg, .int .i64 x.off, .int .i64 x.len, .int .i64 x.total, .int .i64 x.num, .slice x.da x.dn x.dc, .int .i64 x.path] TIt) = w6 at *
    obtain ⟨lz, cz, fz⟩ := OI.out.blk
    have cz0 : w6.cell? ⟨Z, 0, none⟩ = some (.int .i64 x.kind) := cz 0
    have cz1 : w6.cell? ⟨Z, 1, none⟩ = some (.int .i64 x.src) := cz 1
    have cz2 : w6.cell? ⟨Z, 2, none⟩ = some (.int .i64 x.dst) := cz 2
    have cz3 : w6.cell? ⟨Z, 3, none⟩ = some (.int .i64 x.prio) := cz 3
    have cz4 : w6.cell? ⟨Z, 4, none⟩ = some (.int .u64 x.msg) := cz 4
    have cz5 : w6.cell? ⟨Z, 5, none⟩ = some (.int .i64 x.off) := cz 5
    have cz6 : w6.cell? ⟨Z, 6, none⟩ = some (.int .i64 x.len) := cz 6
    have cz7 : w6.cell? ⟨Z, 7, none⟩ = some (.int .i64 x.total) := cz 7
    have cz8 : w6.cell? ⟨Z, 8, none⟩ = some (.int .i64 x.num) := cz 8
    have cz9 : w6.cell? ⟨Z, 9, none⟩ = some (.slice x.da x.dn x.dc) := cz 9
    have cz10 : w6.cell? ⟨Z, 10, none⟩ = some (.int .i64 x.path) := cz 10
    clear cz
    obtain ⟨lx, cx, fx⟩ := OV6.out.blk
    have cx0 : w6.cell? ⟨X, 0, none⟩ = some (.int .i64 0) := cx 0
    have cx1 : w6.cell? ⟨X, 1, none⟩ = some (.int .i64 0) := cx 1
    have cx2 : w6.cell? ⟨X, 2, none⟩ = some (.int .i64 0) := cx 2
    have cx3 : w6.cell? ⟨X, 3, none⟩ = some (.int .i64 0) := cx 3
    have cx4 : w6.cell? ⟨X, 4, none⟩ = some (.int .u64 0) := cx 4
    have cx5 : w6.cell? ⟨X, 5, none⟩ = some (.int .i64 0) := cx 5
    have cx6 : w6.cell? ⟨X, 6, none⟩ = some (.int .i64 0) := cx 6
    have cx7 : w6.cell? ⟨X, 7, none⟩ = some (.int .i64 0) := cx 7
    have cx8 : w6.cell? ⟨X, 8, none⟩ = some (.int .i64 0) := cx 8
    have cx9 : w6.cell? ⟨X, 9, none⟩ = some (.slice none 0 0) := cx 9
    have cx10 : w6.cell? ⟨X, 10, none⟩ = some (.int .i64 0) := cx 10
    clear cx
    go_wp2_with fail
    have hw : (((((((((((w6.setCell ⟨X, 0, none⟩ (.int .i64 x.kind)).setCell ⟨X, 1, none⟩ (.int .i64 x.src)).setCell ⟨X, 2, none⟩ (.int .i64 x.dst)).setCell ⟨X, 3, none⟩ (.int .i64 x.prio)).setCell ⟨X, 4, none⟩ (.int .u64 x.msg)).setCell ⟨X, 5, none⟩ (.int .i64 x.off)).setCell ⟨X, 6, none⟩ (.int .i64 x.len)).setCell ⟨X, 7, none⟩ (.int .i64 x.total)).setCell ⟨X, 8, none⟩ (.int .i64 x.num)).setCell ⟨X, 9, none⟩ (.slice x.da x.dn x.dc)).setCell ⟨X, 10, none⟩ (.int .i64 x.path)) = w6.setCells X 0 [.int .i64 x.kind, .int .i64 x.src, .int .i64 x.dst, .int .i64 x.prio, .int .u64 x.msg, .int .i64 x.off, .int .i64 x.len, .int .i64 x.total, .int .i64 x.num, .slice x.da x.dn x.dc, .int .i64 x.path] := rfl
    rw [hw]
    clear hw cx0 cx1 cx2 cx3 cx4 cx5 cx6 cx7 cx8 cx9 cx10 cz0 cz1 cz2 cz3 cz4 cz5 cz6 cz7 cz8 cz9 cz10 lz fz lx fx
    have OF := Lib.hid (OV6.out.sets [.int .i64 x.kind, .int .i64 x.src, .int .i64 x.dst, .int .i64 x.prio, .int .u64 x.msg, .int .i64 x.off, .int .i64 x.len, .int .i64 x.total, .int .i64 x.num, .slice x.da x.dn x.dc, .int .i64 x.path] rfl)
    have PF := Lib.hid (P6.out.local ((Kept.refl (Only X) w6).setsO (X := X) (show X = X from rfl) [.int .i64 x.kind, .int .i64 x.src, .int .i64 x.dst, .int .i64 x.prio, .int .u64 x.msg, .int .i64 x.off, .int .i64 x.len, .int .i64 x.total, .int .i64 x.num, .slice x.da x.dn x.dc, .int .i64 x.path]) OV6.out.ty (fun hh => by
      rcases F5.out X (.inr (.inr (.inl hh))) with h | h
      · exact hvX X h rfl
      · have := lXw
        omega))
    have KF := Lib.hid (K6.out.setsN (X := X) (Nat.le_of_eq HX.out) [.int .i64 x.kind, .int .i64 x.src, .int .i64 x.dst, .int .i64 x.prio, .int .u64 x.msg, .int .i64 x.off, .int .i64 x.len, .int .i64 x.total, .int .i64 x.num, .slice x.da x.dn x.dc, .int .i64 x.path])
    generalize w6.setCells X 0 [.int .i64 x.kind, .int .i64 x.src, .int .i64 x.dst, .int .i64 x.prio, .int .u64 x.msg, .int .i64 x.off, .int .i64 x.len, .int .i64 x.total, .int .i64 x.num, .slice x.da x.dn x.dc, .int .i64 x.path] = F at *
    obtain ⟨lf, cf, ff⟩ := OF.out.blk
    have cf0 : F.cell? ⟨X, 0, none⟩ = some (.int .i64 x.kind) := cf 0
    have cf1 : F.cell? ⟨X, 1, none⟩ = some (.int .i64 x.src) := cf 1
    have cf2 : F.cell? ⟨X, 2, none⟩ = some (.int .i64 x.dst) := cf 2
    have cf3 : F.cell? ⟨X, 3, none⟩ = some (.int .i64 x.prio) := cf 3
    have cf4 : F.cell? ⟨X, 4, none⟩ = some (.int .u64 x.msg) := cf 4
    have cf5 : F.cell? ⟨X, 5, none⟩ = some (.int .i64 x.off) := cf 5
    have cf6 : F.cell? ⟨X, 6, none⟩ = some (.int .i64 x.len) := cf 6
    have cf7 : F.cell? ⟨X, 7, none⟩ = some (.int .i64 x.total) := cf 7
    have cf8 : F.cell? ⟨X, 8, none⟩ = some (.int .i64 x.num) := cf 8
    have cf9 : F.cell? ⟨X, 9, none⟩ = some (.slice x.da x.dn x.dc) := cf 9
    have cf10 : F.cell? ⟨X, 10, none⟩ = some (.int .i64 x.path) := cf 10
    clear cf
    refine done (.tuple #[boxV x, .bool true]) rfl (by simp [boxV, results, Try.results39, go_sem, cf0, cf1, cf2, cf3, cf4, cf5, cf6, cf7, cf8, cf9, cf10]) (.inr ⟨i, x, r, hi, HL.out, HA.out, rfl, _, PF.out, KF.out, fun z hz => ?_⟩)
    rcases F5.out z hz with h | h
    · exact .inl h
    · exact .inr (Nat.le_trans S4.out h)
end Go.Proofs.Ytoihhidoafgoaaa
