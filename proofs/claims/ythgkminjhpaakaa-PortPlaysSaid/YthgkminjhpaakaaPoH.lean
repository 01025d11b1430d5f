/- A port (chapter 13): frames trimmed, and those that find no room. -/
import Derived.Test.YthgkminjhpaakaaPoP
namespace Go.Proofs.Ythgkminjhpaakaa
open Go.RowKit

theorem Ob.setsP {w : World} {X : Nat} {cs : Array Value} {T : TypeId} (h : Ob w X cs T) (vs : List Value) (hl : vs.length ≤ cs.size) : Ob (w.setCells X 0 vs) X (vs ++ cs.toList.drop vs.length).toArray T := by
  have hr : Rw w X cs.toList T := ⟨cs, h, rfl⟩
  have h2 := hr.sets vs 0 _ _ (by simpa using hl)
  obtain ⟨cur, h3, h4⟩ := h2
  have h5 : cur = (vs ++ cs.toList.drop vs.length).toArray := by
    apply Array.ext'
    rw [h4]
    simp
  rw [h5] at h3
  exact h3
def It.hdr (x : It) (pr : Int) : It := { x with kind := 7, prio := pr, da := none, dn := 0, dc := 0, bs := [] }
set_option maxRecDepth 100000 in
set_option maxHeartbeats 4000000 in
theorem whead (x : It) (pr : Int) (w : World) : Calls Try.prog 33 #[x.frv, .int .i64 pr] w fun e w' => e = .returned (x.hdr pr).frv ∧ Below w.heap.size w w' := by
  unfold It.frv
  go_enter Try.func33, Try.ntmps33
  go_upto_region 1 with fail
  have OX := Lib.hid ((Ob.new w #[.int .i64 x.kind, .int .i64 x.src, .int .i64 x.dst, .int .i64 x.prio, .int .u64 x.msg, .int .i64 x.off, .int .i64 x.len, .int .i64 x.total, .int .i64 x.num, .slice x.da x.dn x.dc] TFr).alloc (.cells #[.int .i64 0, .int .i64 0, .int .i64 0, .int .i64 0, .int .u64 0, .int .i64 0, .int .i64 0, .int .i64 0, .int .i64 0, .slice none 0 0] TFr))
  have OY := Lib.hid (Ob.new (w.alloc (.cells #[.int .i64 x.kind, .int .i64 x.src, .int .i64 x.dst, .int .i64 x.prio, .int .u64 x.msg, .int .i64 x.off, .int .i64 x.len, .int .i64 x.total, .int .i64 x.num, .slice x.da x.dn x.dc] TFr)) #[.int .i64 0, .int .i64 0, .int .i64 0, .int .i64 0, .int .u64 0, .int .i64 0, .int .i64 0, .int .i64 0, .int .i64 0, .slice none 0 0] TFr)
  have HB := Lib.hid (((Below.refl w.heap.size w).alloc (Nat.le_refl _) (.cells #[.int .i64 x.kind, .int .i64 x.src, .int .i64 x.dst, .int .i64 x.prio, .int .u64 x.msg, .int .i64 x.off, .int .i64 x.len, .int .i64 x.total, .int .i64 x.num, .slice x.da x.dn x.dc] TFr)).alloc (by rw [World.size_alloc]; omega) (.cells #[.int .i64 0, .int .i64 0, .int .i64 0, .int .i64 0, .int .u64 0, .int .i64 0, .int .i64 0, .int .i64 0, .int .i64 0, .slice none 0 0] TFr))
  rw [World.size_alloc] at OY
  generalize (w.alloc (.cells #[.int .i64 x.kind, .int .i64 x.src, .int .i64 x.dst, .int .i64 x.prio, .int .u64 x.msg, .int .i64 x.off, .int .i64 x.len, .int .i64 x.total, .int .i64 x.num, .slice x.da x.dn x.dc] TFr)).alloc (.cells #[.int .i64 0, .int .i64 0, .int .i64 0, .int .i64 0, .int .u64 0, .int .i64 0, .int .i64 0, .int .i64 0, .int .i64 0, .slice none 0 0] TFr) = w1 at *
  obtain ⟨X, HX⟩ : ∃ X, Hid (w.heap.size = X) := ⟨_, Lib.hid rfl⟩
  rw [HX.out] at OX OY ⊢
  obtain ⟨lx, cx, fx⟩ := OX.out.blk
  have cx0 : w1.cell? ⟨X, 0, none⟩ = some (.int .i64 x.kind) := cx 0
  have cx1 : w1.cell? ⟨X, 1, none⟩ = some (.int .i64 x.src) := cx 1
  have cx2 : w1.cell? ⟨X, 2, none⟩ = some (.int .i64 x.dst) := cx 2
  have cx3 : w1.cell? ⟨X, 3, none⟩ = some (.int .i64 x.prio) := cx 3
  have cx4 : w1.cell? ⟨X, 4, none⟩ = some (.int .u64 x.msg) := cx 4
  have cx5 : w1.cell? ⟨X, 5, none⟩ = some (.int .i64 x.off) := cx 5
  have cx6 : w1.cell? ⟨X, 6, none⟩ = some (.int .i64 x.len) := cx 6
  have cx7 : w1.cell? ⟨X, 7, none⟩ = some (.int .i64 x.total) := cx 7
  have cx8 : w1.cell? ⟨X, 8, none⟩ = some (.int .i64 x.num) := cx 8
  have cx9 : w1.cell? ⟨X, 9, none⟩ = some (.slice x.da x.dn x.dc) := cx 9
  clear cx
  have sX : w.heap.size ≤ X := Nat.le_of_eq HX.out
  go_upto_region 2 with fail
  have OX2 : Hid (Ob (((w1.setCell ⟨X, 0, none⟩ (.int .i64 7)).setCell ⟨X, 3, none⟩ (.int .i64 pr)).setCell ⟨X, 9, none⟩ (.slice none 0 0)) X #[.int .i64 (x.hdr pr).kind, .int .i64 (x.hdr pr).src, .int .i64 (x.hdr pr).dst, .int .i64 (x.hdr pr).prio, .int .u64 (x.hdr pr).msg, .int .i64 (x.hdr pr).off, .int .i64 (x.hdr pr).len, .int .i64 (x.hdr pr).total, .int .i64 (x.hdr pr).num, .slice (x.hdr pr).da (x.hdr pr).dn (x.hdr pr).dc] TFr) := Lib.hid (Ob.cast (((OX.out.set 0 _).set 3 _).set 9 _) (by rfl))
  have OY2 := Lib.hid (((OY.out.other ⟨X, 0, none⟩ (.int .i64 7) (by show X + 1 ≠ X; omega)).other ⟨X, 3, none⟩ (.int .i64 pr) (by show X + 1 ≠ X; omega)).other ⟨X, 9, none⟩ (.slice none 0 0) (by show X + 1 ≠ X; omega))
  have HB2 := Lib.hid (((HB.out.setCell (p := ⟨X, 0, none⟩) sX (.int .i64 7)).setCell (p := ⟨X, 3, none⟩) sX (.int .i64 pr)).setCell (p := ⟨X, 9, none⟩) sX (.slice none 0 0))
  clear lx fx cx0 cx1 cx2 cx3 cx4 cx5 cx6 cx7 cx8 cx9
  generalize ((w1.setCell ⟨X, 0, none⟩ (.int .i64 7)).setCell ⟨X, 3, none⟩ (.int .i64 pr)).setCell ⟨X, 9, none⟩ (.slice none 0 0) = w2 at *
  obtain ⟨y, HY⟩ : ∃ y, Hid (x.hdr pr = y) := ⟨_, Lib.hid rfl⟩
  rw [HY.out] at OX2
  obtain ⟨lx, cx, fx⟩ := OX2.out.blk
  have cx0 : w2.cell? ⟨X, 0, none⟩ = some (.int .i64 y.kind) := cx 0
  have cx1 : w2.cell? ⟨X, 1, none⟩ = some (.int .i64 y.src) := cx 1
  have cx2 : w2.cell? ⟨X, 2, none⟩ = some (.int .i64 y.dst) := cx 2
  have cx3 : w2.cell? ⟨X, 3, none⟩ = some (.int .i64 y.prio) := cx 3
  have cx4 : w2.cell? ⟨X, 4, none⟩ = some (.int .u64 y.msg) := cx 4
  have cx5 : w2.cell? ⟨X, 5, none⟩ = some (.int .i64 y.off) := cx 5
  have cx6 : w2.cell? ⟨X, 6, none⟩ = some (.int .i64 y.len) := cx 6
  have cx7 : w2.cell? ⟨X, 7, none⟩ = some (.int .i64 y.total) := cx 7
  have cx8 : w2.cell? ⟨X, 8, none⟩ = some (.int .i64 y.num) := cx 8
  have cx9 : w2.cell? ⟨X, 9, none⟩ = some (.slice y.da y.dn y.dc) := cx 9
  clear cx
  obtain ⟨ly, cy, fy⟩ := OY2.out.blk
  have cy0 : w2.cell? ⟨X + 1, 0, none⟩ = some (.int .i64 0) := cy 0
  have cy1 : w2.cell? ⟨X + 1, 1, none⟩ = some (.int .i64 0) := cy 1
  have cy2 : w2.cell? ⟨X + 1, 2, none⟩ = some (.int .i64 0) := cy 2
  have cy3 : w2.cell? ⟨X + 1, 3, none⟩ = some (.int .i64 0) := cy 3
  have cy4 : w2.cell? ⟨X + 1, 4, none⟩ = some (.int .u64 0) := cy 4
  have cy5 : w2.cell? ⟨X + 1, 5, none⟩ = some (.int .i64 0) := cy 5
  have cy6 : w2.cell? ⟨X + 1, 6, none⟩ = some (.int .i64 0) := cy 6
  have cy7 : w2.cell? ⟨X + 1, 7, none⟩ = some (.int .i64 0) := cy 7
  have cy8 : w2.cell? ⟨X + 1, 8, none⟩ = some (.int .i64 0) := cy 8
  have cy9 : w2.cell? ⟨X + 1, 9, none⟩ = some (.slice none 0 0) := cy 9
  clear cy
  go_wp2_with fail
  have hw : ((((((((((w2.setCell ⟨X + 1, 0, none⟩ (.int .i64 y.kind)).setCell ⟨X + 1, 1, none⟩ (.int .i64 y.src)).setCell ⟨X + 1, 2, none⟩ (.int .i64 y.dst)).setCell ⟨X + 1, 3, none⟩ (.int .i64 y.prio)).setCell ⟨X + 1, 4, none⟩ (.int .u64 y.msg)).setCell ⟨X + 1, 5, none⟩ (.int .i64 y.off)).setCell ⟨X + 1, 6, none⟩ (.int .i64 y.len)).setCell ⟨X + 1, 7, none⟩ (.int .i64 y.total)).setCell ⟨X + 1, 8, none⟩ (.int .i64 y.num)).setCell ⟨X + 1, 9, none⟩ (.slice y.da y.dn y.dc)) = w2.setCells (X + 1) 0 [.int .i64 y.kind, .int .i64 y.src, .int .i64 y.dst, .int .i64 y.prio, .int .u64 y.msg, .int .i64 y.off, .int .i64 y.len, .int .i64 y.total, .int .i64 y.num, .slice y.da y.dn y.dc] := rfl
  rw [hw]
  clear hw
  have OF := Lib.hid (OY2.out.sets [.int .i64 y.kind, .int .i64 y.src, .int .i64 y.dst, .int .i64 y.prio, .int .u64 y.msg, .int .i64 y.off, .int .i64 y.len, .int .i64 y.total, .int .i64 y.num, .slice y.da y.dn y.dc] rfl)
  have HF := Lib.hid (Below.sets HB2.out (X := X + 1) (by omega) HB2.out.size [.int .i64 y.kind, .int .i64 y.src, .int .i64 y.dst, .int .i64 y.prio, .int .u64 y.msg, .int .i64 y.off, .int .i64 y.len, .int .i64 y.total, .int .i64 y.num, .slice y.da y.dn y.dc])
  clear lx fx cx0 cx1 cx2 cx3 cx4 cx5 cx6 cx7 cx8 cx9 ly fy cy0 cy1 cy2 cy3 cy4 cy5 cy6 cy7 cy8 cy9
  generalize w2.setCells (X + 1) 0 [.int .i64 y.kind, .int .i64 y.src, .int .i64 y.dst, .int .i64 y.prio, .int .u64 y.msg, .int .i64 y.off, .int .i64 y.len, .int .i64 y.total, .int .i64 y.num, .slice y.da y.dn y.dc] = F at *
  obtain ⟨lf, cf, ff⟩ := OF.out.blk
  have cf0 : F.cell? ⟨X + 1, 0, none⟩ = some (.int .i64 y.kind) := cf 0
  have cf1 : F.cell? ⟨X + 1, 1, none⟩ = some (.int .i64 y.src) := cf 1
  have cf2 : F.cell? ⟨X + 1, 2, none⟩ = some (.int .i64 y.dst) := cf 2
  have cf3 : F.cell? ⟨X + 1, 3, none⟩ = some (.int .i64 y.prio) := cf 3
  have cf4 : F.cell? ⟨X + 1, 4, none⟩ = some (.int .u64 y.msg) := cf 4
  have cf5 : F.cell? ⟨X + 1, 5, none⟩ = some (.int .i64 y.off) := cf 5
  have cf6 : F.cell? ⟨X + 1, 6, none⟩ = some (.int .i64 y.len) := cf 6
  have cf7 : F.cell? ⟨X + 1, 7, none⟩ = some (.int .i64 y.total) := cf 7
  have cf8 : F.cell? ⟨X + 1, 8, none⟩ = some (.int .i64 y.num) := cf 8
  have cf9 : F.cell? ⟨X + 1, 9, none⟩ = some (.slice y.da y.dn y.dc) := cf 9
  clear cf
  exact done y.frv rfl (by simp [It.frv, results, Try.results33, go_sem, cf0, cf1, cf2, cf3, cf4, cf5, cf6, cf7, cf8, cf9]) ⟨by rw [HY.out]; rfl, HX.out ▸ HF.out⟩
set_option maxRecDepth 100000 in
set_option maxHeartbeats 4000000 in
theorem put_drop (b B0 : Nat) (l : Pl) (p : Pp) (i : Nat) (x : It) (w : World) (h : Po b B0 l p w) (hr : Rd w 1 (.slice x.da x.dn x.dc) x.dn (bcells x.bs)) (hn : x.dn ≤ 1073741824) (hk : (x.kind == 11) = false) (hxl : -1000000000 ≤ x.len ∧ x.len ≤ 1073741824) (hi : i < 8) (hp : clampI x.prio 0 7 = i) (hroom : 0 ≤ p.room ∧ p.room ≤ 1099511627776) (hu : 0 ≤ p.u ∧ p.u ≤ p.room) (hf : p.room - p.u < x.sz) (hd : (x.kind == 1) = false ∨ ((x.kind == 1) = true ∧ p.trim = false)) : Calls Try.prog 10 #[.pointer (some ⟨b, 0, none⟩), x.val] w fun e w' => e = .returned (.int .i64 3) ∧ Below w.heap.size w w' := by
  unfold It.val
  have HP := Lib.hid h
  have HR := Lib.hid hr
  have HI := Lib.hid hp
  clear h hr hp
  go_enter Try.func10, Try.ntmps10
  go_upto_region 1 with fail
  have OX := Lib.hid (Ob.new w #[.int .i64 x.kind, .int .i64 x.src, .int .i64 x.dst, .int .i64 x.prio, .int .u64 x.msg, .int .i64 x.off, .int .i64 x.len, .int .i64 x.total, .int .i64 x.num, .slice x.da x.dn x.dc, .int .i64 x.path] TIt)
  have HB := Lib.hid ((Below.refl w.heap.size w).alloc (Nat.le_refl _) (.cells #[.int .i64 x.kind, .int .i64 x.src, .int .i64 x.dst, .int .i64 x.prio, .int .u64 x.msg, .int .i64 x.off, .int .i64 x.len, .int .i64 x.total, .int .i64 x.num, .slice x.da x.dn x.dc, .int .i64 x.path] TIt))
  have P1 := Lib.hid (HP.out.below HB.out)
  have R1 := Lib.hid (HR.out.below HB.out)
  generalize w.alloc (.cells #[.int .i64 x.kind, .int .i64 x.src, .int .i64 x.dst, .int .i64 x.prio, .int .u64 x.msg, .int .i64 x.off, .int .i64 x.len, .int .i64 x.total, .int .i64 x.num, .slice x.da x.dn x.dc, .int .i64 x.path] TIt) = w1 at *
  obtain ⟨X, HX⟩ : ∃ X, Hid (w.heap.size = X) := ⟨_, Lib.hid rfl⟩
  rw [HX.out] at OX ⊢
  obtain ⟨lx, cx, fx⟩ := OX.out.blk
  have cx0 : w1.cell? ⟨X, 0, none⟩ = some (.int .i64 x.kind) := cx 0
  have cx1 : w1.cell? ⟨X, 1, none⟩ = some (.int .i64 x.src) := cx 1
  have cx2 : w1.cell? ⟨X, 2, none⟩ = some (.int .i64 x.dst) := cx 2
  have cx3 : w1.cell? ⟨X, 3, none⟩ = some (.int .i64 x.prio) := cx 3
  have cx4 : w1.cell? ⟨X, 4, none⟩ = some (.int .u64 x.msg) := cx 4
  have cx5 : w1.cell? ⟨X, 5, none⟩ = some (.int .i64 x.off) := cx 5
  have cx6 : w1.cell? ⟨X, 6, none⟩ = some (.int .i64 x.len) := cx 6
  have cx7 : w1.cell? ⟨X, 7, none⟩ = some (.int .i64 x.total) := cx 7
  have cx8 : w1.cell? ⟨X, 8, none⟩ = some (.int .i64 x.num) := cx 8
  have cx9 : w1.cell? ⟨X, 9, none⟩ = some (.slice x.da x.dn x.dc) := cx 9
  have cx10 : w1.cell? ⟨X, 10, none⟩ = some (.int .i64 x.path) := cx 10
  clear cx
  have cells := (P1.out.ob.blk).2.1
  have lb := P1.out.ob.lt
  have cb0 : w1.cell? ⟨b, 0, none⟩ = some (.pointer (some ⟨l.q, 0, none⟩)) := cells 0
  clear cells
  go_wp2_with fail
  refine wp_region_quiet_lit (by kernel_rfl) (by kernel_rfl) ?_
  try simp only [List.append]
  repeat (first | go_big_quiet_step (fail) | quiet_step (fail))
  refine wpQuiet_nil ?_
  intro W hW
  have PW : Hid (Po b B0 l p W) := by obtain ⟨n, rfl⟩ := hW; exact Lib.hid (P1.out.keptF (Kept.dn _ _ _))
  have RW : Hid (Rd W 1 (.slice x.da x.dn x.dc) x.dn (bcells x.bs)) := by obtain ⟨n, rfl⟩ := hW; exact Lib.hid R1.out.dn
  have OW : Hid (Ob W X #[.int .i64 x.kind, .int .i64 x.src, .int .i64 x.dst, .int .i64 x.prio, .int .u64 x.msg, .int .i64 x.off, .int .i64 x.len, .int .i64 x.total, .int .i64 x.num, .slice x.da x.dn x.dc, .int .i64 x.path] TIt) := by obtain ⟨n, rfl⟩ := hW; exact Lib.hid OX.out.dn
  have HBW : Hid (Below w.heap.size w W) := by obtain ⟨n, rfl⟩ := hW; exact Lib.hid (below_dn HB.out)
  clear hW lx fx cx0 cx1 cx2 cx3 cx4 cx5 cx6 cx7 cx8 cx9 cx10 lb cb0
  obtain ⟨lx, cx, fx⟩ := OW.out.blk
  have cx0 : W.cell? ⟨X, 0, none⟩ = some (.int .i64 x.kind) := cx 0
  have cx1 : W.cell? ⟨X, 1, none⟩ = some (.int .i64 x.src) := cx 1
  have cx2 : W.cell? ⟨X, 2, none⟩ = some (.int .i64 x.dst) := cx 2
  have cx3 : W.cell? ⟨X, 3, none⟩ = some (.int .i64 x.prio) := cx 3
  have cx4 : W.cell? ⟨X, 4, none⟩ = some (.int .u64 x.msg) := cx 4
  have cx5 : W.cell? ⟨X, 5, none⟩ = some (.int .i64 x.off) := cx 5
  have cx6 : W.cell? ⟨X, 6, none⟩ = some (.int .i64 x.len) := cx 6
  have cx7 : W.cell? ⟨X, 7, none⟩ = some (.int .i64 x.total) := cx 7
  have cx8 : W.cell? ⟨X, 8, none⟩ = some (.int .i64 x.num) := cx 8
  have cx9 : W.cell? ⟨X, 9, none⟩ = some (.slice x.da x.dn x.dc) := cx 9
  have cx10 : W.cell? ⟨X, 10, none⟩ = some (.int .i64 x.path) := cx 10
  clear cx
  have cells := (PW.out.ob.blk).2.1
  have lb := PW.out.ob.lt
  have cb0 : W.cell? ⟨b, 0, none⟩ = some (.pointer (some ⟨l.q, 0, none⟩)) := cells 0
  clear cells
  go_wp2_with fail
  refine wp_run (M := (fun _ => False)) (stages [([true, true, true, true, true, true, true, false, true, false, false, false, false], 7), ([false, false, false, false, false, false, false, false, false, false, false, false, false], 9), ([false, false, false, false, false, false, false, false, false, false, false, false, false], 10)] [false, false, false, false, false, false, false, false, false, false, false, true, true]) (by kernel_rfl) (by kernel_rfl) ?_
  refine run_stage rfl ?_
  simp only [pickAt]
  repeat (go_big_quiet_step (fail))
  refine wpQuiet_nil ?_
  refine run_want rfl ?_
  intro A hA
  go_simp
  refine (clamp_any _ _ _ _).mono ?_
  rintro e w' ⟨rfl, rfl⟩
  rw [HI.out]
  refine hA _ _ ((Kept.refl _ _)) ?_
  try simp only [Act.put, List.setIfInBounds_toArray, List.set_cons_zero, List.set_cons_succ]
  clear A hA
  refine run_stage rfl ?_
  simp only [pickAt]
  repeat (go_big_quiet_step (fail))
  refine wpQuiet_nil ?_
  refine run_want rfl ?_
  intro A hA
  go_simp
  have hown := pown x x.bs W.drew (RW.out.kept (Kept.drew (fun _ => False) W) (fun _ _ _ _ h => h)) hn
  unfold It.val at hown
  refine hown.mono ?_
  rintro e w6 ⟨a6, c6, rfl, ho6, hb6⟩
  clear hown
  obtain ⟨y, hy⟩ : ∃ y, x.data a6 c6 = y := ⟨_, rfl⟩
  have hyl : -1000000000 ≤ y.len ∧ y.len ≤ 1073741824 := by rw [← hy]; exact hxl
  have hys : y.sz = x.sz := by rw [← hy]; rfl
  rw [hy]
  clear hy
  have P6 := Lib.hid (PW.out.keptF ((Kept.drew _ W).trans (Kept.of_below hb6)))
  have OX6 := Lib.hid (OW.out.kept ((Kept.drew (fun _ => False) W).trans (Kept.of_below hb6)) (fun h => h))
  have B6 := Lib.hid ((below_dn (n := 1) HBW.out).trans (hb6.mono HBW.out.size))
  refine hA _ _ (Kept.of_below hb6) ?_
  try simp only [Act.put, List.setIfInBounds_toArray, List.set_cons_zero, List.set_cons_succ]
  clear A hA
  clear hb6 ho6
  refine run_stage rfl ?_
  simp only [pickAt]
  repeat (go_big_quiet_step (fail))
  refine wpQuiet_nil ?_
  refine run_want rfl ?_
  intro A hA
  go_simp
  refine (push_full l.q B0 l.V p.room p.u p.L i y _ P6.out.qu hyl hi hroom hu (by rw [hys]; exact hf)).mono ?_
  rintro e w7 ⟨rfl, hb7⟩
  have P7 := Lib.hid (P6.out.below hb7)
  have OX7 := Lib.hid (OX6.out.below hb7)
  have B7 := Lib.hid (B6.out.trans (hb7.mono B6.out.size))
  refine hA _ _ (Kept.of_below hb7) ?_
  try simp only [Act.put, List.setIfInBounds_toArray, List.set_cons_zero, List.set_cons_succ]
  clear A hA
  clear hb7 lx fx cx0 cx1 cx2 cx3 cx4 cx5 cx6 cx7 cx8 cx9 cx10 lb cb0
  refine run_last ?_
  simp only [pickAt]
  repeat (go_big_quiet_step (fail))
  refine wpQuiet_nil ?_
  obtain ⟨lx, cx, fx⟩ := OX7.out.blk
  have cx0 : w7.cell? ⟨X, 0, none⟩ = some (.int .i64 x.kind) := cx 0
  have cx1 : w7.cell? ⟨X, 1, none⟩ = some (.int .i64 x.src) := cx 1
  have cx2 : w7.cell? ⟨X, 2, none⟩ = some (.int .i64 x.dst) := cx 2
  have cx3 : w7.cell? ⟨X, 3, none⟩ = some (.int .i64 x.prio) := cx 3
  have cx4 : w7.cell? ⟨X, 4, none⟩ = some (.int .u64 x.msg) := cx 4
  have cx5 : w7.cell? ⟨X, 5, none⟩ = some (.int .i64 x.off) := cx 5
  have cx6 : w7.cell? ⟨X, 6, none⟩ = some (.int .i64 x.len) := cx 6
  have cx7 : w7.cell? ⟨X, 7, none⟩ = some (.int .i64 x.total) := cx 7
  have cx8 : w7.cell? ⟨X, 8, none⟩ = some (.int .i64 x.num) := cx 8
  have cx9 : w7.cell? ⟨X, 9, none⟩ = some (.slice x.da x.dn x.dc) := cx 9
  have cx10 : w7.cell? ⟨X, 10, none⟩ = some (.int .i64 x.path) := cx 10
  clear cx
  have cells := (P7.out.ob.blk).2.1
  have lb := P7.out.ob.lt
  have cb0 : w7.cell? ⟨b, 0, none⟩ = some (.pointer (some ⟨l.q, 0, none⟩)) := cells 0
  have cb3 : w7.cell? ⟨b, 3, none⟩ = some (.bool p.trim) := cells 3
  clear cells
  have hT := Lib.hid hd
  clear hd
  rcases hT.out with hk1 | ⟨hk1, ht⟩
  · have hk2 : ¬ x.kind = 1 := beq_eq_false_iff_ne.1 hk1
    clear cb3
    go_wp2_with fail
    go_ret
    exact ⟨rfl, HX.out ▸ B7.out⟩
  · rw [ht] at cb3
    go_wp2_with fail
    all_goals (go_ret; exact ⟨rfl, HX.out ▸ B7.out⟩)
end Go.Proofs.Ythgkminjhpaakaa
