/- A port (chapter 13): frames of data trimmed. -/
import Derived.Test.YthgkminjhpaakaaPoH
namespace Go.Proofs.Ythgkminjhpaakaa
open Go.RowKit

def PutT (b B0 : Nat) (l : Pl) (p : Pp) (x : It) (w : World) (e : Ending) (w' : World) : Prop := e = .returned (.int .i64 2) ∧ PoPost b B0 l { p with u := p.u + 26, L := upd p.L 7 (p.L 7 ++ [x.hdr 7]) } w w'
set_option maxRecDepth 100000 in
set_option maxHeartbeats 4000000 in
theorem put_trim (b B0 : Nat) (l : Pl) (p : Pp) (i : Nat) (x : It) (w : World) (h : Po b B0 l p w) (hr : Rd w 1 (.slice x.da x.dn x.dc) x.dn (bcells x.bs)) (hn : x.dn ≤ 1073741824) (hk : (x.kind == 11) = false) (hxl : -1000000000 ≤ x.len ∧ x.len ≤ 1073741824) (hi : i < 8) (hp : clampI x.prio 0 7 = i) (hroom : 0 ≤ p.room ∧ p.room ≤ 1099511627776) (hu : 0 ≤ p.u ∧ p.u ≤ p.room) (hf : p.room - p.u < x.sz) (hk1 : x.kind = 1) (ht : p.trim = true) (hf2 : 26 ≤ p.room - p.u) (hlen : (p.L 7).length ≤ 1000000) : Calls Try.prog 10 #[.pointer (some ⟨b, 0, none⟩), x.val] w (PutT b B0 l p x w) := by
  have HK1 := Lib.hid hk1
  clear hk1
  unfold It.val
  have HP := Lib.hid h
  have HR := Lib.hid hr
  have HI := Lib.hid hp
  clear h hr hp
  go_enter Try.func10, Try.ntmps10
  go_upto_region 1 with fail
  have OX := Lib.hid (Ob.new w #[.int .i64 x.kind, .int .i64 x.src, .int .i64 x.dst, .int .i64 x.prio, .int .u64 x.msg, .int .i64 x.off, .int .i64 x.len, .int .i64 x.total, .int .i64 x.num, .slice x.da x.dn x.dc, .int .i64 x.path] TIt)
  have HB := Lib.hid ((Below.refl w.heap.size w).alloc (Nat.le_refl _) (.cells #[.int .i64 x.kind, .int .i64 x.src, .int .i64 x.dst, .int .i64 x.prio, .int .u64 x.msg, .int .i64 x.off, .int .i64 x.len, .int .i64 x.total, .int .i64 x.num, .slice x.da x.dn x.dc, .int .i64 x.path] TIt))
  have P1 := Lib.hid (HP.out.below HB.out)
  have R1 := Lib.hid (HR.out.below HB.out)
  generalize w.alloc (.cells #[.int .i64 x.kind, .int .i64 x.src, .int .i64 x.dst, .int .i64 x.prio, .int .u64 x.msg, .int .i64 x.off, .int .i64 x.len, .int .i64 x.total, .int .i64 x.num, .slice x.da x.dn x.dc, .int .i64 x.path] TIt) = w1 at *
  obtain ⟨X, HX⟩ : ∃ X, Hid (w.heap.size = X) := ⟨_, Lib.hid rfl⟩
  rw [HX.out] at OX ⊢
  obtain ⟨lx, cx, fx⟩ := OX.out.blk
  have cx0 : w1.cell? ⟨X, 0, none⟩ = some (.int .i64 x.kind) := cx 0
  have cx1 : w1.cell? ⟨X, 1, none⟩ = some (.int .i64 x.src) := cx 1
  have cx2 : w1.cell? ⟨X, 2, none⟩ = some (.int .i64 x.dst) := cx 2
  have cx3 : w1.cell? ⟨X, 3, none⟩ = some (.int .i64 x.prio) := cx 3
  have cx4 : w1.cell? ⟨X, 4, none⟩ = some (.int .u64 x.msg) := cx 4
  have cx5 : w1.cell? ⟨X, 5, none⟩ = some (.int .i64 x.off) := cx 5
  have cx6 : w1.cell? ⟨X, 6, none⟩ = some (.int .i64 x.len) := cx 6
  have cx7 : w1.cell? ⟨X, 7, none⟩ = some (.int .i64 x.total) := cx 7
  have cx8 : w1.cell? ⟨X, 8, none⟩ = some (.int .i64 x.num) := cx 8
  have cx9 : w1.cell? ⟨X, 9, none⟩ = some (.slice x.da x.dn x.dc) := cx 9
  have cx10 : w1.cell? ⟨X, 10, none⟩ = some (.int .i64 x.path) := cx 10
  clear cx
  have cells := (P1.out.ob.blk).2.1
  have lb := P1.out.ob.lt
  have cb0 : w1.cell? ⟨b, 0, none⟩ = some (.pointer (some ⟨l.q, 0, none⟩)) := cells 0
  clear cells
  go_wp2_with fail
  refine wp_region_quiet_lit (by kernel_rfl) (by kernel_rfl) ?_
  try simp only [List.append]
  repeat (first | go_big_quiet_step (fail) | quiet_step (fail))
  refine wpQuiet_nil ?_
  intro W hW
  have PW : Hid (Po b B0 l p W) := by obtain ⟨n, rfl⟩ := hW; exact Lib.hid (P1.out.keptF (Kept.dn _ _ _))
  have RW : Hid (Rd W 1 (.slice x.da x.dn x.dc) x.dn (bcells x.bs)) := by obtain ⟨n, rfl⟩ := hW; exact Lib.hid R1.out.dn
  have OW : Hid (Ob W X #[.int .i64 x.kind, .int .i64 x.src, .int .i64 x.dst, .int .i64 x.prio, .int .u64 x.msg, .int .i64 x.off, .int .i64 x.len, .int .i64 x.total, .int .i64 x.num, .slice x.da x.dn x.dc, .int .i64 x.path] TIt) := by obtain ⟨n, rfl⟩ := hW; exact Lib.hid OX.out.dn
  have HBW : Hid (Below w.heap.size w W) := by obtain ⟨n, rfl⟩ := hW; exact Lib.hid (below_dn HB.out)
  clear hW lx fx cx0 cx1 cx2 cx3 cx4 cx5 cx6 cx7 cx8 cx9 cx10 lb cb0
  obtain ⟨lx, cx, fx⟩ := OW.out.blk
  have cx0 : W.cell? ⟨X, 0, none⟩ = some (.int .i64 x.kind) := cx 0
  have cx1 : W.cell? ⟨X, 1, none⟩ = some (.int .i64 x.src) := cx 1
  have cx2 : W.cell? ⟨X, 2, none⟩ = some (.int .i64 x.dst) := cx 2
  have cx3 : W.cell? ⟨X, 3, none⟩ = some (.int .i64 x.prio) := cx 3
  have cx4 : W.cell? ⟨X, 4, none⟩ = some (.int .u64 x.msg) := cx 4
  have cx5 : W.cell? ⟨X, 5, none⟩ = some (.int .i64 x.off) := cx 5
  have cx6 : W.cell? ⟨X, 6, none⟩ = some (.int .i64 x.len) := cx 6
  have cx7 : W.cell? ⟨X, 7, none⟩ = some (.int .i64 x.total) := cx 7
  have cx8 : W.cell? ⟨X, 8, none⟩ = some (.int .i64 x.num) := cx 8
  have cx9 : W.cell? ⟨X, 9, none⟩ = some (.slice x.da x.dn x.dc) := cx 9
  have cx10 : W.cell? ⟨X, 10, none⟩ = some (.int .i64 x.path) := cx 10
  clear cx
  have cells := (PW.out.ob.blk).2.1
  have lb := PW.out.ob.lt
  have cb0 : W.cell? ⟨b, 0, none⟩ = some (.pointer (some ⟨l.q, 0, none⟩)) := cells 0
  clear cells
  go_wp2_with fail
  refine wp_run (M := (fun _ => False)) (stages [([true, true, true, true, true, true, true, false, true, false, false, false, false], 7), ([false, false, false, false, false, false, false, false, false, false, false, false, false], 9), ([false, false, false, false, false, false, false, false, false, false, false, false, false], 10)] [false, false, false, false, false, false, false, false, false, false, false, true, true]) (by kernel_rfl) (by kernel_rfl) ?_
  refine run_stage rfl ?_
  simp only [pickAt]
  repeat (go_big_quiet_step (fail))
  refine wpQuiet_nil ?_
  refine run_want rfl ?_
  intro A hA
  go_simp
  refine (clamp_any _ _ _ _).mono ?_
  rintro e w' ⟨rfl, rfl⟩
  rw [HI.out]
  refine hA _ _ ((Kept.refl _ _)) ?_
  try simp only [Act.put, List.setIfInBounds_toArray, List.set_cons_zero, List.set_cons_succ]
  clear A hA
  refine run_stage rfl ?_
  simp only [pickAt]
  repeat (go_big_quiet_step (fail))
  refine wpQuiet_nil ?_
  refine run_want rfl ?_
  intro A hA
  go_simp
  have hown := pown x x.bs W.drew (RW.out.kept (Kept.drew (fun _ => False) W) (fun _ _ _ _ h => h)) hn
  unfold It.val at hown
  refine hown.mono ?_
  rintro e w6 ⟨a6, c6, rfl, ho6, hb6⟩
  clear hown
  obtain ⟨y, hy⟩ : ∃ y, x.data a6 c6 = y := ⟨_, rfl⟩
  have hyl : -1000000000 ≤ y.len ∧ y.len ≤ 1073741824 := by rw [← hy]; exact hxl
  have hys : y.sz = x.sz := by rw [← hy]; rfl
  rw [hy]
  clear hy
  have P6 := Lib.hid (PW.out.keptF ((Kept.drew _ W).trans (Kept.of_below hb6)))
  have OX6 := Lib.hid (OW.out.kept ((Kept.drew (fun _ => False) W).trans (Kept.of_below hb6)) (fun h => h))
  have B6 := Lib.hid ((below_dn (n := 1) HBW.out).trans (hb6.mono HBW.out.size))
  refine hA _ _ (Kept.of_below hb6) ?_
  try simp only [Act.put, List.setIfInBounds_toArray, List.set_cons_zero, List.set_cons_succ]
  clear A hA
  clear hb6 ho6
  refine run_stage rfl ?_
  simp only [pickAt]
  repeat (go_big_quiet_step (fail))
  refine wpQuiet_nil ?_
  refine run_want rfl ?_
  intro A hA
  go_simp
  refine (push_full l.q B0 l.V p.room p.u p.L i y _ P6.out.qu hyl hi hroom hu (by rw [hys]; exact hf)).mono ?_
  rintro e w7 ⟨rfl, hb7⟩
  have P7 := Lib.hid (P6.out.below hb7)
  have OX7 := Lib.hid (OX6.out.below hb7)
  have B7 := Lib.hid (B6.out.trans (hb7.mono B6.out.size))
  refine hA _ _ (Kept.of_below hb7) ?_
  try simp only [Act.put, List.setIfInBounds_toArray, List.set_cons_zero, List.set_cons_succ]
  clear A hA
  clear hb7 lx fx cx0 cx1 cx2 cx3 cx4 cx5 cx6 cx7 cx8 cx9 cx10 lb cb0
  refine run_last ?_
  simp only [pickAt]
  repeat (go_big_quiet_step (fail))
  refine wpQuiet_nil ?_
  obtain ⟨lx, cx, fx⟩ := OX7.out.blk
  have cx0 : w7.cell? ⟨X, 0, none⟩ = some (.int .i64 x.kind) := cx 0
  have cx1 : w7.cell? ⟨X, 1, none⟩ = some (.int .i64 x.src) := cx 1
  have cx2 : w7.cell? ⟨X, 2, none⟩ = some (.int .i64 x.dst) := cx 2
  have cx3 : w7.cell? ⟨X, 3, none⟩ = some (.int .i64 x.prio) := cx 3
  have cx4 : w7.cell? ⟨X, 4, none⟩ = some (.int .u64 x.msg) := cx 4
  have cx5 : w7.cell? ⟨X, 5, none⟩ = some (.int .i64 x.off) := cx 5
  have cx6 : w7.cell? ⟨X, 6, none⟩ = some (.int .i64 x.len) := cx 6
  have cx7 : w7.cell? ⟨X, 7, none⟩ = some (.int .i64 x.total) := cx 7
  have cx8 : w7.cell? ⟨X, 8, none⟩ = some (.int .i64 x.num) := cx 8
  have cx9 : w7.cell? ⟨X, 9, none⟩ = some (.slice x.da x.dn x.dc) := cx 9
  have cx10 : w7.cell? ⟨X, 10, none⟩ = some (.int .i64 x.path) := cx 10
  clear cx
  have cells := (P7.out.ob.blk).2.1
  have lb := P7.out.ob.lt
  have cb0 : w7.cell? ⟨b, 0, none⟩ = some (.pointer (some ⟨l.q, 0, none⟩)) := cells 0
  have cb3 : w7.cell? ⟨b, 3, none⟩ = some (.bool p.trim) := cells 3
  clear cells
  rw [ht] at cb3
  have hk2 : (x.kind == 1) = true := beq_iff_eq.2 HK1.out
  have hk3 := HK1.out
  go_upto_region 12 with fail
  clear hk2 hk3 cb3
  have hwh := whead x 7 w7
  unfold It.frv at hwh
  go_wp2_with fail
  refine (hwh).mono ?_
  rintro e w8 ⟨rfl, hb8⟩
  have P8 := Lib.hid (P7.out.below hb8)
  have OX8 := Lib.hid (OX7.out.below hb8)
  have B8 := Lib.hid (B7.out.trans (hb8.mono B7.out.size))
  clear hb8 hwh lx fx cx0 cx1 cx2 cx3 cx4 cx5 cx6 cx7 cx8 cx9 cx10 lb cb0
  obtain ⟨y, HY⟩ : ∃ y, Hid (x.hdr 7 = y) := ⟨_, Lib.hid rfl⟩
  have HYP : Hid (y.path = x.path) := Lib.hid (by rw [← HY.out]; rfl)
  rw [HY.out]
  obtain ⟨lx, cx, fx⟩ := OX8.out.blk
  have cx0 : w8.cell? ⟨X, 0, none⟩ = some (.int .i64 x.kind) := cx 0
  have cx1 : w8.cell? ⟨X, 1, none⟩ = some (.int .i64 x.src) := cx 1
  have cx2 : w8.cell? ⟨X, 2, none⟩ = some (.int .i64 x.dst) := cx 2
  have cx3 : w8.cell? ⟨X, 3, none⟩ = some (.int .i64 x.prio) := cx 3
  have cx4 : w8.cell? ⟨X, 4, none⟩ = some (.int .u64 x.msg) := cx 4
  have cx5 : w8.cell? ⟨X, 5, none⟩ = some (.int .i64 x.off) := cx 5
  have cx6 : w8.cell? ⟨X, 6, none⟩ = some (.int .i64 x.len) := cx 6
  have cx7 : w8.cell? ⟨X, 7, none⟩ = some (.int .i64 x.total) := cx 7
  have cx8 : w8.cell? ⟨X, 8, none⟩ = some (.int .i64 x.num) := cx 8
  have cx9 : w8.cell? ⟨X, 9, none⟩ = some (.slice x.da x.dn x.dc) := cx 9
  have cx10 : w8.cell? ⟨X, 10, none⟩ = some (.int .i64 x.path) := cx 10
  clear cx
  go_upto_region 13 with fail
  have hw : ((((((((((w8.setCell ⟨X, 0, none⟩ (.int .i64 y.kind)).setCell ⟨X, 1, none⟩ (.int .i64 y.src)).setCell ⟨X, 2, none⟩ (.int .i64 y.dst)).setCell ⟨X, 3, none⟩ (.int .i64 y.prio)).setCell ⟨X, 4, none⟩ (.int .u64 y.msg)).setCell ⟨X, 5, none⟩ (.int .i64 y.off)).setCell ⟨X, 6, none⟩ (.int .i64 y.len)).setCell ⟨X, 7, none⟩ (.int .i64 y.total)).setCell ⟨X, 8, none⟩ (.int .i64 y.num)).setCell ⟨X, 9, none⟩ (.slice y.da y.dn y.dc)) = w8.setCells X 0 [.int .i64 y.kind, .int .i64 y.src, .int .i64 y.dst, .int .i64 y.prio, .int .u64 y.msg, .int .i64 y.off, .int .i64 y.len, .int .i64 y.total, .int .i64 y.num, .slice y.da y.dn y.dc] := rfl
  rw [hw]
  clear hw lx fx cx0 cx1 cx2 cx3 cx4 cx5 cx6 cx7 cx8 cx9 cx10
  have OX9 : Hid (Ob (w8.setCells X 0 [.int .i64 y.kind, .int .i64 y.src, .int .i64 y.dst, .int .i64 y.prio, .int .u64 y.msg, .int .i64 y.off, .int .i64 y.len, .int .i64 y.total, .int .i64 y.num, .slice y.da y.dn y.dc]) X #[.int .i64 y.kind, .int .i64 y.src, .int .i64 y.dst, .int .i64 y.prio, .int .u64 y.msg, .int .i64 y.off, .int .i64 y.len, .int .i64 y.total, .int .i64 y.num, .slice y.da y.dn y.dc, .int .i64 y.path] TIt) := Lib.hid (by
    rw [HYP.out]
    exact OX8.out.setsP [.int .i64 y.kind, .int .i64 y.src, .int .i64 y.dst, .int .i64 y.prio, .int .u64 y.msg, .int .i64 y.off, .int .i64 y.len, .int .i64 y.total, .int .i64 y.num, .slice y.da y.dn y.dc] (by show 10 ≤ 11; decide))
  have hvX : l.v.ownBlock ≠ some X := fun hh => by
    have h1 := ((HP.out.own).lt X hh).2
    have h2 := HX.out
    omega
  have P9 := Lib.hid (P8.out.local ((Kept.refl (Only X) w8).setsO (X := X) (show X = X from rfl) [.int .i64 y.kind, .int .i64 y.src, .int .i64 y.dst, .int .i64 y.prio, .int .u64 y.msg, .int .i64 y.off, .int .i64 y.len, .int .i64 y.total, .int .i64 y.num, .slice y.da y.dn y.dc]) OX8.out.ty hvX)
  have B9 := Lib.hid (Below.sets B8.out (X := X) (Nat.le_of_eq HX.out) B8.out.size [.int .i64 y.kind, .int .i64 y.src, .int .i64 y.dst, .int .i64 y.prio, .int .u64 y.msg, .int .i64 y.off, .int .i64 y.len, .int .i64 y.total, .int .i64 y.num, .slice y.da y.dn y.dc])
  generalize w8.setCells X 0 [.int .i64 y.kind, .int .i64 y.src, .int .i64 y.dst, .int .i64 y.prio, .int .u64 y.msg, .int .i64 y.off, .int .i64 y.len, .int .i64 y.total, .int .i64 y.num, .slice y.da y.dn y.dc] = w9 at *
  have hyl : -1000000000 ≤ y.len ∧ y.len ≤ 1073741824 := by rw [← HY.out]; exact hxl
  have hys : y.sz = 26 := by rw [← HY.out]; rfl
  obtain ⟨lx, cx, fx⟩ := OX9.out.blk
  have cx0 : w9.cell? ⟨X, 0, none⟩ = some (.int .i64 y.kind) := cx 0
  have cx1 : w9.cell? ⟨X, 1, none⟩ = some (.int .i64 y.src) := cx 1
  have cx2 : w9.cell? ⟨X, 2, none⟩ = some (.int .i64 y.dst) := cx 2
  have cx3 : w9.cell? ⟨X, 3, none⟩ = some (.int .i64 y.prio) := cx 3
  have cx4 : w9.cell? ⟨X, 4, none⟩ = some (.int .u64 y.msg) := cx 4
  have cx5 : w9.cell? ⟨X, 5, none⟩ = some (.int .i64 y.off) := cx 5
  have cx6 : w9.cell? ⟨X, 6, none⟩ = some (.int .i64 y.len) := cx 6
  have cx7 : w9.cell? ⟨X, 7, none⟩ = some (.int .i64 y.total) := cx 7
  have cx8 : w9.cell? ⟨X, 8, none⟩ = some (.int .i64 y.num) := cx 8
  have cx9 : w9.cell? ⟨X, 9, none⟩ = some (.slice y.da y.dn y.dc) := cx 9
  have cx10 : w9.cell? ⟨X, 10, none⟩ = some (.int .i64 y.path) := cx 10
  clear cx
  have cells := (P9.out.ob.blk).2.1
  have lb := P9.out.ob.lt
  have cb0 : w9.cell? ⟨b, 0, none⟩ = some (.pointer (some ⟨l.q, 0, none⟩)) := cells 0
  clear cells
  have hbM : ¬ QM l.q l.V b := fun hh => by
    rcases P9.out.qu.ty hh with h3 | h3
    · exact absurd (h3.one P9.out.ob.ty) (by decide)
    · exact absurd (h3.one P9.out.ob.ty) (by decide)
  have hXM : ¬ QM l.q l.V X := fun hh => by
    rcases P9.out.qu.ty hh with h3 | h3
    · exact absurd (h3.one OX9.out.ty) (by decide)
    · exact absurd (h3.one OX9.out.ty) (by decide)
  have DY : ∀ W : World, Da B0 W y := fun W => by rw [← HY.out]; exact World.ownsRow_nil _ _ _ _
  refine wp_run (M := (QM l.q l.V)) (stages [([true, true, true, true, true, false, false], 5)] [false, false, false, false, false, false, true]) (by kernel_rfl) (by kernel_rfl) ?_
  refine run_stage rfl ?_
  simp only [pickAt]
  repeat (go_big_quiet_step (fail))
  refine wpQuiet_nil ?_
  refine run_want rfl ?_
  intro A hA
  go_simp
  refine (push_yes l.q B0 l.V p.room p.u p.L 7 y _ (P9.out.keptF (Kept.drew _ _)).qu hyl (by decide) hroom hu (by rw [hys]; exact hf2) hlen).mono ?_
  rintro e w10 ⟨rfl, V10, Q10, K10, F10⟩
  have P10 := Lib.hid ((P9.out.keptF (Kept.drew _ _)).queue K10 Q10 F10 (fun z j hj hz => by
    by_cases hji : j = 7
    · subst hji
      rw [upd_same] at hz
      rcases List.mem_append.1 hz with hz | hz
      · exact .inl (.inr ⟨7, hj, hz⟩)
      · rw [List.mem_singleton.1 hz]
        exact .inr (DY _)
    · rw [upd_other _ _ hji] at hz
      exact .inl (.inr ⟨j, hj, hz⟩)))
  refine hA _ _ (K10) ?_
  try simp only [Act.put, List.setIfInBounds_toArray, List.set_cons_zero, List.set_cons_succ]
  clear A hA
  clear Q10 K10 F10
  refine run_last ?_
  simp only [pickAt]
  repeat (go_big_quiet_step (fail))
  refine wpQuiet_nil ?_
  go_wp2_with fail
  go_ret
  refine ⟨rfl, ?_⟩
  have := P10.out.before (below_dn (n := 1) B9.out)
  rw [hys] at this
  rw [HY.out]
  exact this
set_option maxRecDepth 100000 in
set_option maxHeartbeats 4000000 in
theorem put_trimno (b B0 : Nat) (l : Pl) (p : Pp) (i : Nat) (x : It) (w : World) (h : Po b B0 l p w) (hr : Rd w 1 (.slice x.da x.dn x.dc) x.dn (bcells x.bs)) (hn : x.dn ≤ 1073741824) (hk : (x.kind == 11) = false) (hxl : -1000000000 ≤ x.len ∧ x.len ≤ 1073741824) (hi : i < 8) (hp : clampI x.prio 0 7 = i) (hroom : 0 ≤ p.room ∧ p.room ≤ 1099511627776) (hu : 0 ≤ p.u ∧ p.u ≤ p.room) (hf : p.room - p.u < x.sz) (hk1 : x.kind = 1) (ht : p.trim = true) (hf2 : p.room - p.u < 26) : Calls Try.prog 10 #[.pointer (some ⟨b, 0, none⟩), x.val] w fun e w' => e = .returned (.int .i64 3) ∧ Below w.heap.size w w' := by
  have HK1 := Lib.hid hk1
  clear hk1
  unfold It.val
  have HP := Lib.hid h
  have HR := Lib.hid hr
  have HI := Lib.hid hp
  clear h hr hp
  go_enter Try.func10, Try.ntmps10
  go_upto_region 1 with fail
  have OX := Lib.hid (Ob.new w #[.int .i64 x.kind, .int .i64 x.src, .int .i64 x.dst, .int .i64 x.prio, .int .u64 x.msg, .int .i64 x.off, .int .i64 x.len, .int .i64 x.total, .int .i64 x.num, .slice x.da x.dn x.dc, .int .i64 x.path] TIt)
  have HB := Lib.hid ((Below.refl w.heap.size w).alloc (Nat.le_refl _) (.cells #[.int .i64 x.kind, .int .i64 x.src, .int .i64 x.dst, .int .i64 x.prio, .int .u64 x.msg, .int .i64 x.off, .int .i64 x.len, .int .i64 x.total, .int .i64 x.num, .slice x.da x.dn x.dc, .int .i64 x.path] TIt))
  have P1 := Lib.hid (HP.out.below HB.out)
  have R1 := Lib.hid (HR.out.below HB.out)
  generalize w.alloc (.cells #[.int .i64 x.kind, .int .i64 x.src, .int .i64 x.dst, .int .i64 x.prio, .int .u64 x.msg, .int .i64 x.off, .int .i64 x.len, .int .i64 x.total, .int .i64 x.num, .slice x.da x.dn x.dc, .int .i64 x.path] TIt) = w1 at *
  obtain ⟨X, HX⟩ : ∃ X, Hid (w.heap.size = X) := ⟨_, Lib.hid rfl⟩
  rw [HX.out] at OX ⊢
  obtain ⟨lx, cx, fx⟩ := OX.out.blk
  have cx0 : w1.cell? ⟨X, 0, none⟩ = some (.int .i64 x.kind) := cx 0
  have cx1 : w1.cell? ⟨X, 1, none⟩ = some (.int .i64 x.src) := cx 1
  have cx2 : w1.cell? ⟨X, 2, none⟩ = some (.int .i64 x.dst) := cx 2
  have cx3 : w1.cell? ⟨X, 3, none⟩ = some (.int .i64 x.prio) := cx 3
  have cx4 : w1.cell? ⟨X, 4, none⟩ = some (.int .u64 x.msg) := cx 4
  have cx5 : w1.cell? ⟨X, 5, none⟩ = some (.int .i64 x.off) := cx 5
  have cx6 : w1.cell? ⟨X, 6, none⟩ = some (.int .i64 x.len) := cx 6
  have cx7 : w1.cell? ⟨X, 7, none⟩ = some (.int .i64 x.total) := cx 7
  have cx8 : w1.cell? ⟨X, 8, none⟩ = some (.int .i64 x.num) := cx 8
  have cx9 : w1.cell? ⟨X, 9, none⟩ = some (.slice x.da x.dn x.dc) := cx 9
  have cx10 : w1.cell? ⟨X, 10, none⟩ = some (.int .i64 x.path) := cx 10
  clear cx
  have cells := (P1.out.ob.blk).2.1
  have lb := P1.out.ob.lt
  have cb0 : w1.cell? ⟨b, 0, none⟩ = some (.pointer (some ⟨l.q, 0, none⟩)) := cells 0
  clear cells
  go_wp2_with fail
  refine wp_region_quiet_lit (by kernel_rfl) (by kernel_rfl) ?_
  try simp only [List.append]
  repeat (first | go_big_quiet_step (fail) | quiet_step (fail))
  refine wpQuiet_nil ?_
  intro W hW
  have PW : Hid (Po b B0 l p W) := by obtain ⟨n, rfl⟩ := hW; exact Lib.hid (P1.out.keptF (Kept.dn _ _ _))
  have RW : Hid (Rd W 1 (.slice x.da x.dn x.dc) x.dn (bcells x.bs)) := by obtain ⟨n, rfl⟩ := hW; exact Lib.hid R1.out.dn
  have OW : Hid (Ob W X #[.int .i64 x.kind, .int .i64 x.src, .int .i64 x.dst, .int .i64 x.prio, .int .u64 x.msg, .int .i64 x.off, .int .i64 x.len, .int .i64 x.total, .int .i64 x.num, .slice x.da x.dn x.dc, .int .i64 x.path] TIt) := by obtain ⟨n, rfl⟩ := hW; exact Lib.hid OX.out.dn
  have HBW : Hid (Below w.heap.size w W) := by obtain ⟨n, rfl⟩ := hW; exact Lib.hid (below_dn HB.out)
  clear hW lx fx cx0 cx1 cx2 cx3 cx4 cx5 cx6 cx7 cx8 cx9 cx10 lb cb0
  obtain ⟨lx, cx, fx⟩ := OW.out.blk
  have cx0 : W.cell? ⟨X, 0, none⟩ = some (.int .i64 x.kind) := cx 0
  have cx1 : W.cell? ⟨X, 1, none⟩ = some (.int .i64 x.src) := cx 1
  have cx2 : W.cell? ⟨X, 2, none⟩ = some (.int .i64 x.dst) := cx 2
  have cx3 : W.cell? ⟨X, 3, none⟩ = some (.int .i64 x.prio) := cx 3
  have cx4 : W.cell? ⟨X, 4, none⟩ = some (.int .u64 x.msg) := cx 4
  have cx5 : W.cell? ⟨X, 5, none⟩ = some (.int .i64 x.off) := cx 5
  have cx6 : W.cell? ⟨X, 6, none⟩ = some (.int .i64 x.len) := cx 6
  have cx7 : W.cell? ⟨X, 7, none⟩ = some (.int .i64 x.total) := cx 7
  have cx8 : W.cell? ⟨X, 8, none⟩ = some (.int .i64 x.num) := cx 8
  have cx9 : W.cell? ⟨X, 9, none⟩ = some (.slice x.da x.dn x.dc) := cx 9
  have cx10 : W.cell? ⟨X, 10, none⟩ = some (.int .i64 x.path) := cx 10
  clear cx
  have cells := (PW.out.ob.blk).2.1
  have lb := PW.out.ob.lt
  have cb0 : W.cell? ⟨b, 0, none⟩ = some (.pointer (some ⟨l.q, 0, none⟩)) := cells 0
  clear cells
  go_wp2_with fail
  refine wp_run (M := (fun _ => False)) (stages [([true, true, true, true, true, true, true, false, true, false, false, false, false], 7), ([false, false, false, false, false, false, false, false, false, false, false, false, false], 9), ([false, false, false, false, false, false, false, false, false, false, false, false, false], 10)] [false, false, false, false, false, false, false, false, false, false, false, true, true]) (by kernel_rfl) (by kernel_rfl) ?_
  refine run_stage rfl ?_
  simp only [pickAt]
  repeat (go_big_quiet_step (fail))
  refine wpQuiet_nil ?_
  refine run_want rfl ?_
  intro A hA
  go_simp
  refine (clamp_any _ _ _ _).mono ?_
  rintro e w' ⟨rfl, rfl⟩
  rw [HI.out]
  refine hA _ _ ((Kept.refl _ _)) ?_
  try simp only [Act.put, List.setIfInBounds_toArray, List.set_cons_zero, List.set_cons_succ]
  clear A hA
  refine run_stage rfl ?_
  simp only [pickAt]
  repeat (go_big_quiet_step (fail))
  refine wpQuiet_nil ?_
  refine run_want rfl ?_
  intro A hA
  go_simp
  have hown := pown x x.bs W.drew (RW.out.kept (Kept.drew (fun _ => False) W) (fun _ _ _ _ h => h)) hn
  unfold It.val at hown
  refine hown.mono ?_
  rintro e w6 ⟨a6, c6, rfl, ho6, hb6⟩
  clear hown
  obtain ⟨y, hy⟩ : ∃ y, x.data a6 c6 = y := ⟨_, rfl⟩
  have hyl : -1000000000 ≤ y.len ∧ y.len ≤ 1073741824 := by rw [← hy]; exact hxl
  have hys : y.sz = x.sz := by rw [← hy]; rfl
  rw [hy]
  clear hy
  have P6 := Lib.hid (PW.out.keptF ((Kept.drew _ W).trans (Kept.of_below hb6)))
  have OX6 := Lib.hid (OW.out.kept ((Kept.drew (fun _ => False) W).trans (Kept.of_below hb6)) (fun h => h))
  have B6 := Lib.hid ((below_dn (n := 1) HBW.out).trans (hb6.mono HBW.out.size))
  refine hA _ _ (Kept.of_below hb6) ?_
  try simp only [Act.put, List.setIfInBounds_toArray, List.set_cons_zero, List.set_cons_succ]
  clear A hA
  clear hb6 ho6
  refine run_stage rfl ?_
  simp only [pickAt]
  repeat (go_big_quiet_step (fail))
  refine wpQuiet_nil ?_
  refine run_want rfl ?_
  intro A hA
  go_simp
  refine (push_full l.q B0 l.V p.room p.u p.L i y _ P6.out.qu hyl hi hroom hu (by rw [hys]; exact hf)).mono ?_
  rintro e w7 ⟨rfl, hb7⟩
  have P7 := Lib.hid (P6.out.below hb7)
  have OX7 := Lib.hid (OX6.out.below hb7)
  have B7 := Lib.hid (B6.out.trans (hb7.mono B6.out.size))
  refine hA _ _ (Kept.of_below hb7) ?_
  try simp only [Act.put, List.setIfInBounds_toArray, List.set_cons_zero, List.set_cons_succ]
  clear A hA
  clear hb7 lx fx cx0 cx1 cx2 cx3 cx4 cx5 cx6 cx7 cx8 cx9 cx10 lb cb0
  refine run_last ?_
  simp only [pickAt]
  repeat (go_big_quiet_step (fail))
  refine wpQuiet_nil ?_
  obtain ⟨lx, cx, fx⟩ := OX7.out.blk
  have cx0 : w7.cell? ⟨X, 0, none⟩ = some (.int .i64 x.kind) := cx 0
  have cx1 : w7.cell? ⟨X, 1, none⟩ = some (.int .i64 x.src) := cx 1
  have cx2 : w7.cell? ⟨X, 2, none⟩ = some (.int .i64 x.dst) := cx 2
  have cx3 : w7.cell? ⟨X, 3, none⟩ = some (.int .i64 x.prio) := cx 3
  have cx4 : w7.cell? ⟨X, 4, none⟩ = some (.int .u64 x.msg) := cx 4
  have cx5 : w7.cell? ⟨X, 5, none⟩ = some (.int .i64 x.off) := cx 5
  have cx6 : w7.cell? ⟨X, 6, none⟩ = some (.int .i64 x.len) := cx 6
  have cx7 : w7.cell? ⟨X, 7, none⟩ = some (.int .i64 x.total) := cx 7
  have cx8 : w7.cell? ⟨X, 8, none⟩ = some (.int .i64 x.num) := cx 8
  have cx9 : w7.cell? ⟨X, 9, none⟩ = some (.slice x.da x.dn x.dc) := cx 9
  have cx10 : w7.cell? ⟨X, 10, none⟩ = some (.int .i64 x.path) := cx 10
  clear cx
  have cells := (P7.out.ob.blk).2.1
  have lb := P7.out.ob.lt
  have cb0 : w7.cell? ⟨b, 0, none⟩ = some (.pointer (some ⟨l.q, 0, none⟩)) := cells 0
  have cb3 : w7.cell? ⟨b, 3, none⟩ = some (.bool p.trim) := cells 3
  clear cells
  rw [ht] at cb3
  have hk2 : (x.kind == 1) = true := beq_iff_eq.2 HK1.out
  have hk3 := HK1.out
  go_upto_region 12 with fail
  clear hk2 hk3 cb3
  have hwh := whead x 7 w7
  unfold It.frv at hwh
  go_wp2_with fail
  refine (hwh).mono ?_
  rintro e w8 ⟨rfl, hb8⟩
  have P8 := Lib.hid (P7.out.below hb8)
  have OX8 := Lib.hid (OX7.out.below hb8)
  have B8 := Lib.hid (B7.out.trans (hb8.mono B7.out.size))
  clear hb8 hwh lx fx cx0 cx1 cx2 cx3 cx4 cx5 cx6 cx7 cx8 cx9 cx10 lb cb0
  obtain ⟨y, HY⟩ : ∃ y, Hid (x.hdr 7 = y) := ⟨_, Lib.hid rfl⟩
  have HYP : Hid (y.path = x.path) := Lib.hid (by rw [← HY.out]; rfl)
  rw [HY.out]
  obtain ⟨lx, cx, fx⟩ := OX8.out.blk
  have cx0 : w8.cell? ⟨X, 0, none⟩ = some (.int .i64 x.kind) := cx 0
  have cx1 : w8.cell? ⟨X, 1, none⟩ = some (.int .i64 x.src) := cx 1
  have cx2 : w8.cell? ⟨X, 2, none⟩ = some (.int .i64 x.dst) := cx 2
  have cx3 : w8.cell? ⟨X, 3, none⟩ = some (.int .i64 x.prio) := cx 3
  have cx4 : w8.cell? ⟨X, 4, none⟩ = some (.int .u64 x.msg) := cx 4
  have cx5 : w8.cell? ⟨X, 5, none⟩ = some (.int .i64 x.off) := cx 5
  have cx6 : w8.cell? ⟨X, 6, none⟩ = some (.int .i64 x.len) := cx 6
  have cx7 : w8.cell? ⟨X, 7, none⟩ = some (.int .i64 x.total) := cx 7
  have cx8 : w8.cell? ⟨X, 8, none⟩ = some (.int .i64 x.num) := cx 8
  have cx9 : w8.cell? ⟨X, 9, none⟩ = some (.slice x.da x.dn x.dc) := cx 9
  have cx10 : w8.cell? ⟨X, 10, none⟩ = some (.int .i64 x.path) := cx 10
  clear cx
  go_upto_region 13 with fail
  have hw : ((((((((((w8.setCell ⟨X, 0, none⟩ (.int .i64 y.kind)).setCell ⟨X, 1, none⟩ (.int .i64 y.src)).setCell ⟨X, 2, none⟩ (.int .i64 y.dst)).setCell ⟨X, 3, none⟩ (.int .i64 y.prio)).setCell ⟨X, 4, none⟩ (.int .u64 y.msg)).setCell ⟨X, 5, none⟩ (.int .i64 y.off)).setCell ⟨X, 6, none⟩ (.int .i64 y.len)).setCell ⟨X, 7, none⟩ (.int .i64 y.total)).setCell ⟨X, 8, none⟩ (.int .i64 y.num)).setCell ⟨X, 9, none⟩ (.slice y.da y.dn y.dc)) = w8.setCells X 0 [.int .i64 y.kind, .int .i64 y.src, .int .i64 y.dst, .int .i64 y.prio, .int .u64 y.msg, .int .i64 y.off, .int .i64 y.len, .int .i64 y.total, .int .i64 y.num, .slice y.da y.dn y.dc] := rfl
  rw [hw]
  clear hw lx fx cx0 cx1 cx2 cx3 cx4 cx5 cx6 cx7 cx8 cx9 cx10
  have OX9 : Hid (Ob (w8.setCells X 0 [.int .i64 y.kind, .int .i64 y.src, .int .i64 y.dst, .int .i64 y.prio, .int .u64 y.msg, .int .i64 y.off, .int .i64 y.len, .int .i64 y.total, .int .i64 y.num, .slice y.da y.dn y.dc]) X #[.int .i64 y.kind, .int .i64 y.src, .int .i64 y.dst, .int .i64 y.prio, .int .u64 y.msg, .int .i64 y.off, .int .i64 y.len, .int .i64 y.total, .int .i64 y.num, .slice y.da y.dn y.dc, .int .i64 y.path] TIt) := Lib.hid (by
    rw [HYP.out]
    exact OX8.out.setsP [.int .i64 y.kind, .int .i64 y.src, .int .i64 y.dst, .int .i64 y.prio, .int .u64 y.msg, .int .i64 y.off, .int .i64 y.len, .int .i64 y.total, .int .i64 y.num, .slice y.da y.dn y.dc] (by show 10 ≤ 11; decide))
  have hvX : l.v.ownBlock ≠ some X := fun hh => by
    have h1 := ((HP.out.own).lt X hh).2
    have h2 := HX.out
    omega
  have P9 := Lib.hid (P8.out.local ((Kept.refl (Only X) w8).setsO (X := X) (show X = X from rfl) [.int .i64 y.kind, .int .i64 y.src, .int .i64 y.dst, .int .i64 y.prio, .int .u64 y.msg, .int .i64 y.off, .int .i64 y.len, .int .i64 y.total, .int .i64 y.num, .slice y.da y.dn y.dc]) OX8.out.ty hvX)
  have B9 := Lib.hid (Below.sets B8.out (X := X) (Nat.le_of_eq HX.out) B8.out.size [.int .i64 y.kind, .int .i64 y.src, .int .i64 y.dst, .int .i64 y.prio, .int .u64 y.msg, .int .i64 y.off, .int .i64 y.len, .int .i64 y.total, .int .i64 y.num, .slice y.da y.dn y.dc])
  generalize w8.setCells X 0 [.int .i64 y.kind, .int .i64 y.src, .int .i64 y.dst, .int .i64 y.prio, .int .u64 y.msg, .int .i64 y.off, .int .i64 y.len, .int .i64 y.total, .int .i64 y.num, .slice y.da y.dn y.dc] = w9 at *
  have hyl : -1000000000 ≤ y.len ∧ y.len ≤ 1073741824 := by rw [← HY.out]; exact hxl
  have hys : y.sz = 26 := by rw [← HY.out]; rfl
  obtain ⟨lx, cx, fx⟩ := OX9.out.blk
  have cx0 : w9.cell? ⟨X, 0, none⟩ = some (.int .i64 y.kind) := cx 0
  have cx1 : w9.cell? ⟨X, 1, none⟩ = some (.int .i64 y.src) := cx 1
  have cx2 : w9.cell? ⟨X, 2, none⟩ = some (.int .i64 y.dst) := cx 2
  have cx3 : w9.cell? ⟨X, 3, none⟩ = some (.int .i64 y.prio) := cx 3
  have cx4 : w9.cell? ⟨X, 4, none⟩ = some (.int .u64 y.msg) := cx 4
  have cx5 : w9.cell? ⟨X, 5, none⟩ = some (.int .i64 y.off) := cx 5
  have cx6 : w9.cell? ⟨X, 6, none⟩ = some (.int .i64 y.len) := cx 6
  have cx7 : w9.cell? ⟨X, 7, none⟩ = some (.int .i64 y.total) := cx 7
  have cx8 : w9.cell? ⟨X, 8, none⟩ = some (.int .i64 y.num) := cx 8
  have cx9 : w9.cell? ⟨X, 9, none⟩ = some (.slice y.da y.dn y.dc) := cx 9
  have cx10 : w9.cell? ⟨X, 10, none⟩ = some (.int .i64 y.path) := cx 10
  clear cx
  have cells := (P9.out.ob.blk).2.1
  have lb := P9.out.ob.lt
  have cb0 : w9.cell? ⟨b, 0, none⟩ = some (.pointer (some ⟨l.q, 0, none⟩)) := cells 0
  clear cells
  refine wp_run (M := (fun _ => False)) (stages [([true, true, true, true, true, false, false], 5)] [false, false, false, false, false, false, true]) (by kernel_rfl) (by kernel_rfl) ?_
  refine run_stage rfl ?_
  simp only [pickAt]
  repeat (go_big_quiet_step (fail))
  refine wpQuiet_nil ?_
  refine run_want rfl ?_
  intro A hA
  go_simp
  refine (push_full l.q B0 l.V p.room p.u p.L 7 y _ (P9.out.keptF (Kept.drew _ _)).qu hyl (by decide) hroom hu (by rw [hys]; exact hf2)).mono ?_
  rintro e w10 ⟨rfl, hb10⟩
  have B10 := Lib.hid ((below_dn (n := 1) B9.out).trans (hb10.mono B9.out.size))
  refine hA _ _ (Kept.of_below hb10) ?_
  try simp only [Act.put, List.setIfInBounds_toArray, List.set_cons_zero, List.set_cons_succ]
  clear A hA
  clear hb10
  refine run_last ?_
  simp only [pickAt]
  repeat (go_big_quiet_step (fail))
  refine wpQuiet_nil ?_
  go_wp2_with fail
  go_ret
  exact ⟨rfl, HX.out ▸ B10.out⟩
end Go.Proofs.Ythgkminjhpaakaa
