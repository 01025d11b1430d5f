/- The document's port (chapter 13): Put of what is no credit. -/
import Derived.Test.YthgkminjhpaakaaPoRd
namespace Go.Proofs.Ythgkminjhpaakaa
open Go.RowKit

set_option maxRecDepth 100000 in
set_option maxHeartbeats 4000000 in
theorem mtrimmed (x : It) (w : World) : Calls Try.prog 43 #[x.frv] w fun e w' => e = .returned (x.hdr 0).frv ∧ Below w.heap.size w w' := by
  unfold It.frv
  go_enter Try.func43, Try.ntmps43
  go_upto_region 1 with fail
  have OX := Lib.hid ((Ob.new w #[.int .i64 x.kind, .int .i64 x.src, .int .i64 x.dst, .int .i64 x.prio, .int .u64 x.msg, .int .i64 x.off, .int .i64 x.len, .int .i64 x.total, .int .i64 x.num, .slice x.da x.dn x.dc] TFr).alloc (.cells #[.int .i64 0, .int .i64 0, .int .i64 0, .int .i64 0, .int .u64 0, .int .i64 0, .int .i64 0, .int .i64 0, .int .i64 0, .slice none 0 0] TFr))
  have OY := Lib.hid (Ob.new (w.alloc (.cells #[.int .i64 x.kind, .int .i64 x.src, .int .i64 x.dst, .int .i64 x.prio, .int .u64 x.msg, .int .i64 x.off, .int .i64 x.len, .int .i64 x.total, .int .i64 x.num, .slice x.da x.dn x.dc] TFr)) #[.int .i64 0, .int .i64 0, .int .i64 0, .int .i64 0, .int .u64 0, .int .i64 0, .int .i64 0, .int .i64 0, .int .i64 0, .slice none 0 0] TFr)
  have HB := Lib.hid (((Below.refl w.heap.size w).alloc (Nat.le_refl _) (.cells #[.int .i64 x.kind, .int .i64 x.src, .int .i64 x.dst, .int .i64 x.prio, .int .u64 x.msg, .int .i64 x.off, .int .i64 x.len, .int .i64 x.total, .int .i64 x.num, .slice x.da x.dn x.dc] TFr)).alloc (by rw [World.size_alloc]; omega) (.cells #[.int .i64 0, .int .i64 0, .int .i64 0, .int .i64 0, .int .u64 0, .int .i64 0, .int .i64 0, .int .i64 0, .int .i64 0, .slice none 0 0] TFr))
  rw [World.size_alloc] at OY
  generalize (w.alloc (.cells #[.int .i64 x.kind, .int .i64 x.src, .int .i64 x.dst, .int .i64 x.prio, .int .u64 x.msg, .int .i64 x.off, .int .i64 x.len, .int .i64 x.total, .int .i64 x.num, .slice x.da x.dn x.dc] TFr)).alloc (.cells #[.int .i64 0, .int .i64 0, .int .i64 0, .int .i64 0, .int .u64 0, .int .i64 0, .int .i64 0, .int .i64 0, .int .i64 0, .slice none 0 0] TFr) = w1 at *
  obtain ⟨X, HX⟩ : ∃ X, Hid (w.heap.size = X) := ⟨_, Lib.hid rfl⟩
  rw [HX.out] at OX OY ⊢
  obtain ⟨lx, cx, fx⟩ := OX.out.blk
  have cx0 : w1.cell? ⟨X, 0, none⟩ = some (.int .i64 x.kind) := cx 0
  have cx1 : w1.cell? ⟨X, 1, none⟩ = some (.int .i64 x.src) := cx 1
  have cx2 : w1.cell? ⟨X, 2, none⟩ = some (.int .i64 x.dst) := cx 2
  have cx3 : w1.cell? ⟨X, 3, none⟩ = some (.int .i64 x.prio) := cx 3
  have cx4 : w1.cell? ⟨X, 4, none⟩ = some (.int .u64 x.msg) := cx 4
  have cx5 : w1.cell? ⟨X, 5, none⟩ = some (.int .i64 x.off) := cx 5
  have cx6 : w1.cell? ⟨X, 6, none⟩ = some (.int .i64 x.len) := cx 6
  have cx7 : w1.cell? ⟨X, 7, none⟩ = some (.int .i64 x.total) := cx 7
  have cx8 : w1.cell? ⟨X, 8, none⟩ = some (.int .i64 x.num) := cx 8
  have cx9 : w1.cell? ⟨X, 9, none⟩ = some (.slice x.da x.dn x.dc) := cx 9
  clear cx
  have sX : w.heap.size ≤ X := Nat.le_of_eq HX.out
  go_upto_region 4 with fail
  have OX2 : Hid (Ob (((w1.setCell ⟨X, 0, none⟩ (.int .i64 7)).setCell ⟨X, 3, none⟩ (.int .i64 0)).setCell ⟨X, 9, none⟩ (.slice none 0 0)) X #[.int .i64 (x.hdr 0).kind, .int .i64 (x.hdr 0).src, .int .i64 (x.hdr 0).dst, .int .i64 (x.hdr 0).prio, .int .u64 (x.hdr 0).msg, .int .i64 (x.hdr 0).off, .int .i64 (x.hdr 0).len, .int .i64 (x.hdr 0).total, .int .i64 (x.hdr 0).num, .slice (x.hdr 0).da (x.hdr 0).dn (x.hdr 0).dc] TFr) := Lib.hid (Ob.cast (((OX.out.set 0 _).set 3 _).set 9 _) (by rfl))
  have OY2 := Lib.hid (((OY.out.other ⟨X, 0, none⟩ (.int .i64 7) (by show X + 1 ≠ X; omega)).other ⟨X, 3, none⟩ (.int .i64 0) (by show X + 1 ≠ X; omega)).other ⟨X, 9, none⟩ (.slice none 0 0) (by show X + 1 ≠ X; omega))
  have HB2 := Lib.hid (((HB.out.setCell (p := ⟨X, 0, none⟩) sX (.int .i64 7)).setCell (p := ⟨X, 3, none⟩) sX (.int .i64 0)).setCell (p := ⟨X, 9, none⟩) sX (.slice none 0 0))
  clear lx fx cx0 cx1 cx2 cx3 cx4 cx5 cx6 cx7 cx8 cx9
  generalize ((w1.setCell ⟨X, 0, none⟩ (.int .i64 7)).setCell ⟨X, 3, none⟩ (.int .i64 0)).setCell ⟨X, 9, none⟩ (.slice none 0 0) = w2 at *
  obtain ⟨y, HY⟩ : ∃ y, Hid (x.hdr 0 = y) := ⟨_, Lib.hid rfl⟩
  rw [HY.out] at OX2
  obtain ⟨lx, cx, fx⟩ := OX2.out.blk
  have cx0 : w2.cell? ⟨X, 0, none⟩ = some (.int .i64 y.kind) := cx 0
  have cx1 : w2.cell? ⟨X, 1, none⟩ = some (.int .i64 y.src) := cx 1
  have cx2 : w2.cell? ⟨X, 2, none⟩ = some (.int .i64 y.dst) := cx 2
  have cx3 : w2.cell? ⟨X, 3, none⟩ = some (.int .i64 y.prio) := cx 3
  have cx4 : w2.cell? ⟨X, 4, none⟩ = some (.int .u64 y.msg) := cx 4
  have cx5 : w2.cell? ⟨X, 5, none⟩ = some (.int .i64 y.off) := cx 5
  have cx6 : w2.cell? ⟨X, 6, none⟩ = some (.int .i64 y.len) := cx 6
  have cx7 : w2.cell? ⟨X, 7, none⟩ = some (.int .i64 y.total) := cx 7
  have cx8 : w2.cell? ⟨X, 8, none⟩ = some (.int .i64 y.num) := cx 8
  have cx9 : w2.cell? ⟨X, 9, none⟩ = some (.slice y.da y.dn y.dc) := cx 9
  clear cx
  obtain ⟨ly, cy, fy⟩ := OY2.out.blk
  have cy0 : w2.cell? ⟨X + 1, 0, none⟩ = some (.int .i64 0) := cy 0
  have cy1 : w2.cell? ⟨X + 1, 1, none⟩ = some (.int .i64 0) := cy 1
  have cy2 : w2.cell? ⟨X + 1, 2, none⟩ = some (.int .i64 0) := cy 2
  have cy3 : w2.cell? ⟨X + 1, 3, none⟩ = some (.int .i64 0) := cy 3
  have cy4 : w2.cell? ⟨X + 1, 4, none⟩ = some (.int .u64 0) := cy 4
  have cy5 : w2.cell? ⟨X + 1, 5, none⟩ = some (.int .i64 0) := cy 5
  have cy6 : w2.cell? ⟨X + 1, 6, none⟩ = some (.int .i64 0) := cy 6
  have cy7 : w2.cell? ⟨X + 1, 7, none⟩ = some (.int .i64 0) := cy 7
  have cy8 : w2.cell? ⟨X + 1, 8, none⟩ = some (.int .i64 0) := cy 8
  have cy9 : w2.cell? ⟨X + 1, 9, none⟩ = some (.slice none 0 0) := cy 9
  clear cy
  go_wp2_with fail
  have hw : ((((((((((w2.setCell ⟨X + 1, 0, none⟩ (.int .i64 y.kind)).setCell ⟨X + 1, 1, none⟩ (.int .i64 y.src)).setCell ⟨X + 1, 2, none⟩ (.int .i64 y.dst)).setCell ⟨X + 1, 3, none⟩ (.int .i64 y.prio)).setCell ⟨X + 1, 4, none⟩ (.int .u64 y.msg)).setCell ⟨X + 1, 5, none⟩ (.int .i64 y.off)).setCell ⟨X + 1, 6, none⟩ (.int .i64 y.len)).setCell ⟨X + 1, 7, none⟩ (.int .i64 y.total)).setCell ⟨X + 1, 8, none⟩ (.int .i64 y.num)).setCell ⟨X + 1, 9, none⟩ (.slice y.da y.dn y.dc)) = w2.setCells (X + 1) 0 [.int .i64 y.kind, .int .i64 y.src, .int .i64 y.dst, .int .i64 y.prio, .int .u64 y.msg, .int .i64 y.off, .int .i64 y.len, .int .i64 y.total, .int .i64 y.num, .slice y.da y.dn y.dc] := rfl
  rw [hw]
  clear hw
  have OF := Lib.hid (OY2.out.sets [.int .i64 y.kind, .int .i64 y.src, .int .i64 y.dst, .int .i64 y.prio, .int .u64 y.msg, .int .i64 y.off, .int .i64 y.len, .int .i64 y.total, .int .i64 y.num, .slice y.da y.dn y.dc] rfl)
  have HF := Lib.hid (Below.sets HB2.out (X := X + 1) (by omega) HB2.out.size [.int .i64 y.kind, .int .i64 y.src, .int .i64 y.dst, .int .i64 y.prio, .int .u64 y.msg, .int .i64 y.off, .int .i64 y.len, .int .i64 y.total, .int .i64 y.num, .slice y.da y.dn y.dc])
  clear lx fx cx0 cx1 cx2 cx3 cx4 cx5 cx6 cx7 cx8 cx9 ly fy cy0 cy1 cy2 cy3 cy4 cy5 cy6 cy7 cy8 cy9
  generalize w2.setCells (X + 1) 0 [.int .i64 y.kind, .int .i64 y.src, .int .i64 y.dst, .int .i64 y.prio, .int .u64 y.msg, .int .i64 y.off, .int .i64 y.len, .int .i64 y.total, .int .i64 y.num, .slice y.da y.dn y.dc] = F at *
  obtain ⟨lf, cf, ff⟩ := OF.out.blk
  have cf0 : F.cell? ⟨X + 1, 0, none⟩ = some (.int .i64 y.kind) := cf 0
  have cf1 : F.cell? ⟨X + 1, 1, none⟩ = some (.int .i64 y.src) := cf 1
  have cf2 : F.cell? ⟨X + 1, 2, none⟩ = some (.int .i64 y.dst) := cf 2
  have cf3 : F.cell? ⟨X + 1, 3, none⟩ = some (.int .i64 y.prio) := cf 3
  have cf4 : F.cell? ⟨X + 1, 4, none⟩ = some (.int .u64 y.msg) := cf 4
  have cf5 : F.cell? ⟨X + 1, 5, none⟩ = some (.int .i64 y.off) := cf 5
  have cf6 : F.cell? ⟨X + 1, 6, none⟩ = some (.int .i64 y.len) := cf 6
  have cf7 : F.cell? ⟨X + 1, 7, none⟩ = some (.int .i64 y.total) := cf 7
  have cf8 : F.cell? ⟨X + 1, 8, none⟩ = some (.int .i64 y.num) := cf 8
  have cf9 : F.cell? ⟨X + 1, 9, none⟩ = some (.slice y.da y.dn y.dc) := cf 9
  clear cf
  exact done y.frv rfl (by simp [It.frv, results, Try.results43, go_sem, cf0, cf1, cf2, cf3, cf4, cf5, cf6, cf7, cf8, cf9]) ⟨by rw [HY.out]; rfl, HX.out ▸ HF.out⟩
set_option maxRecDepth 100000 in
set_option maxHeartbeats 4000000 in
theorem mput_line (m : Nat) (U : Nat → Value) (uc : Value) (t : Mp) (N : Nat) (i : Nat) (x : It) (w : World) (h : Mo m U uc t w) (ho : t.ok N) (hN : N ≤ 100000) (hx : x.ok2) (hk : (x.kind == 11) = false) (hi : i < 8) (hp : clampI x.prio 0 7 = i) (hf : msum t.L 8 + x.bytes ≤ t.room) : Calls Try.prog 19 #[.pointer (some ⟨m, 0, none⟩), x.val] w fun e w' => e = .returned (.int .i64 1) ∧ MoPost m { t with L := upd t.L i (t.L i ++ [x]) } w w' := by
  have HI := Lib.hid hp
  have HO := Lib.hid ho
  have HXO := Lib.hid hx
  clear hp ho hx
  unfold It.val
  have HM := Lib.hid h
  clear h
  go_enter Try.func19, Try.ntmps19
  go_upto_region 1 with fail
  have OX := Lib.hid (Ob.new w #[.int .i64 x.kind, .int .i64 x.src, .int .i64 x.dst, .int .i64 x.prio, .int .u64 x.msg, .int .i64 x.off, .int .i64 x.len, .int .i64 x.total, .int .i64 x.num, .slice x.da x.dn x.dc, .int .i64 x.path] TX)
  have HB := Lib.hid ((Below.refl w.heap.size w).alloc (Nat.le_refl _) (.cells #[.int .i64 x.kind, .int .i64 x.src, .int .i64 x.dst, .int .i64 x.prio, .int .u64 x.msg, .int .i64 x.off, .int .i64 x.len, .int .i64 x.total, .int .i64 x.num, .slice x.da x.dn x.dc, .int .i64 x.path] TX))
  have M1 := Lib.hid (HM.out.below HB.out)
  generalize w.alloc (.cells #[.int .i64 x.kind, .int .i64 x.src, .int .i64 x.dst, .int .i64 x.prio, .int .u64 x.msg, .int .i64 x.off, .int .i64 x.len, .int .i64 x.total, .int .i64 x.num, .slice x.da x.dn x.dc, .int .i64 x.path] TX) = w1 at *
  obtain ⟨X, HX⟩ : ∃ X, Hid (w.heap.size = X) := ⟨_, Lib.hid rfl⟩
  rw [HX.out] at OX ⊢
  obtain ⟨lx, cx, fx⟩ := OX.out.blk
  have cx0 : w1.cell? ⟨X, 0, none⟩ = some (.int .i64 x.kind) := cx 0
  have cx1 : w1.cell? ⟨X, 1, none⟩ = some (.int .i64 x.src) := cx 1
  have cx2 : w1.cell? ⟨X, 2, none⟩ = some (.int .i64 x.dst) := cx 2
  have cx3 : w1.cell? ⟨X, 3, none⟩ = some (.int .i64 x.prio) := cx 3
  have cx4 : w1.cell? ⟨X, 4, none⟩ = some (.int .u64 x.msg) := cx 4
  have cx5 : w1.cell? ⟨X, 5, none⟩ = some (.int .i64 x.off) := cx 5
  have cx6 : w1.cell? ⟨X, 6, none⟩ = some (.int .i64 x.len) := cx 6
  have cx7 : w1.cell? ⟨X, 7, none⟩ = some (.int .i64 x.total) := cx 7
  have cx8 : w1.cell? ⟨X, 8, none⟩ = some (.int .i64 x.num) := cx 8
  have cx9 : w1.cell? ⟨X, 9, none⟩ = some (.slice x.da x.dn x.dc) := cx 9
  have cx10 : w1.cell? ⟨X, 10, none⟩ = some (.int .i64 x.path) := cx 10
  clear cx
  have lm := M1.out.ob.lt
  have fm := (M1.out.ob.blk).2.2
  have cm1 : w1.cell? ⟨m, 1, none⟩ = some (.int .i64 t.most) := (M1.out.ob.blk).2.1 1
  have cm2 : w1.cell? ⟨m, 2, none⟩ = some (.bool t.trim) := (M1.out.ob.blk).2.1 2
  obtain ⟨a, c, hv, hlc, hcm⟩ := M1.out.cr.form
  have HV := Lib.hid hv
  have cl : w1.cell? ⟨m, 11, none⟩ = some (.slice a t.C.length c) := by rw [← hv]; exact (M1.out.ob.blk).2.1 11
  clear hv
  have hXm : ¬ Only m X := fun hh => absurd (Ty.one (by rw [show X = m from hh] at OX; exact OX.out.ty) M1.out.ob.ty) (by decide)
  go_wp2_with fail
  refine wp_run (M := (Only m)) (stages [([true, true, true, true, false, true, false], 4), ([false, false, false, false, false, false, false], 6)] [false, false, false, false, false, false, false]) (by kernel_rfl) (by kernel_rfl) ?_
  refine run_stage rfl ?_
  simp only [pickAt]
  repeat (go_big_quiet_step (fail))
  refine wpQuiet_nil ?_
  refine run_want rfl ?_
  intro A hA
  go_simp
  refine (clamp_ref _ _ _ _).mono ?_
  rintro e w' ⟨rfl, rfl⟩
  rw [HI.out]
  refine hA _ _ ((Kept.refl _ _)) ?_
  try simp only [Act.put, List.setIfInBounds_toArray, List.set_cons_zero, List.set_cons_succ]
  clear A hA
  refine run_stage rfl ?_
  simp only [pickAt]
  repeat (go_big_quiet_step (fail))
  refine wpQuiet_nil ?_
  refine run_want rfl ?_
  intro A hA
  go_simp
  have hpu := mpush_yes m U uc t N i x w1.drew (M1.out.keptF (Kept.drew _ _)) HO.out hN HXO.out hi hf
  unfold It.val at hpu
  refine hpu.mono ?_
  rintro e w2 ⟨rfl, U2, uc2, hm2, hk2⟩
  have M2 := Lib.hid hm2
  have K2 := Lib.hid (((Kept.of_below (M := Only m) HB.out).drewR).trans hk2)
  refine hA _ _ (hk2) ?_
  try simp only [Act.put, List.setIfInBounds_toArray, List.set_cons_zero, List.set_cons_succ]
  clear A hA
  clear hm2 hk2 hpu
  refine run_last ?_
  simp only [pickAt]
  repeat (go_big_quiet_step (fail))
  refine wpQuiet_nil ?_
  go_wp2_with fail
  go_ret
  exact ⟨rfl, U2, uc2, M2.out, K2.out⟩
set_option maxRecDepth 100000 in
set_option maxHeartbeats 4000000 in
theorem mput_drop (m : Nat) (U : Nat → Value) (uc : Value) (t : Mp) (N : Nat) (i : Nat) (x : It) (w : World) (h : Mo m U uc t w) (ho : t.ok N) (hN : N ≤ 100000) (hx : x.ok2) (hk : (x.kind == 11) = false) (hp : clampI x.prio 0 7 = i) (hf : t.room < msum t.L 8 + x.bytes) (hd : t.trim = false ∨ (t.trim = true ∧ x.kind ≠ 1)) : Calls Try.prog 19 #[.pointer (some ⟨m, 0, none⟩), x.val] w fun e w' => e = .returned (.int .i64 3) ∧ Below w.heap.size w w' := by
  have HI := Lib.hid hp
  have HO := Lib.hid ho
  have HXO := Lib.hid hx
  have HD := Lib.hid hd
  clear hp ho hx hd
  unfold It.val
  have HM := Lib.hid h
  clear h
  go_enter Try.func19, Try.ntmps19
  go_upto_region 1 with fail
  have OX := Lib.hid (Ob.new w #[.int .i64 x.kind, .int .i64 x.src, .int .i64 x.dst, .int .i64 x.prio, .int .u64 x.msg, .int .i64 x.off, .int .i64 x.len, .int .i64 x.total, .int .i64 x.num, .slice x.da x.dn x.dc, .int .i64 x.path] TX)
  have HB := Lib.hid ((Below.refl w.heap.size w).alloc (Nat.le_refl _) (.cells #[.int .i64 x.kind, .int .i64 x.src, .int .i64 x.dst, .int .i64 x.prio, .int .u64 x.msg, .int .i64 x.off, .int .i64 x.len, .int .i64 x.total, .int .i64 x.num, .slice x.da x.dn x.dc, .int .i64 x.path] TX))
  have M1 := Lib.hid (HM.out.below HB.out)
  generalize w.alloc (.cells #[.int .i64 x.kind, .int .i64 x.src, .int .i64 x.dst, .int .i64 x.prio, .int .u64 x.msg, .int .i64 x.off, .int .i64 x.len, .int .i64 x.total, .int .i64 x.num, .slice x.da x.dn x.dc, .int .i64 x.path] TX) = w1 at *
  obtain ⟨X, HX⟩ : ∃ X, Hid (w.heap.size = X) := ⟨_, Lib.hid rfl⟩
  rw [HX.out] at OX ⊢
  obtain ⟨lx, cx, fx⟩ := OX.out.blk
  have cx0 : w1.cell? ⟨X, 0, none⟩ = some (.int .i64 x.kind) := cx 0
  have cx1 : w1.cell? ⟨X, 1, none⟩ = some (.int .i64 x.src) := cx 1
  have cx2 : w1.cell? ⟨X, 2, none⟩ = some (.int .i64 x.dst) := cx 2
  have cx3 : w1.cell? ⟨X, 3, none⟩ = some (.int .i64 x.prio) := cx 3
  have cx4 : w1.cell? ⟨X, 4, none⟩ = some (.int .u64 x.msg) := cx 4
  have cx5 : w1.cell? ⟨X, 5, none⟩ = some (.int .i64 x.off) := cx 5
  have cx6 : w1.cell? ⟨X, 6, none⟩ = some (.int .i64 x.len) := cx 6
  have cx7 : w1.cell? ⟨X, 7, none⟩ = some (.int .i64 x.total) := cx 7
  have cx8 : w1.cell? ⟨X, 8, none⟩ = some (.int .i64 x.num) := cx 8
  have cx9 : w1.cell? ⟨X, 9, none⟩ = some (.slice x.da x.dn x.dc) := cx 9
  have cx10 : w1.cell? ⟨X, 10, none⟩ = some (.int .i64 x.path) := cx 10
  clear cx
  have lm := M1.out.ob.lt
  have fm := (M1.out.ob.blk).2.2
  have cm1 : w1.cell? ⟨m, 1, none⟩ = some (.int .i64 t.most) := (M1.out.ob.blk).2.1 1
  have cm2 : w1.cell? ⟨m, 2, none⟩ = some (.bool t.trim) := (M1.out.ob.blk).2.1 2
  obtain ⟨a, c, hv, hlc, hcm⟩ := M1.out.cr.form
  have HV := Lib.hid hv
  have cl : w1.cell? ⟨m, 11, none⟩ = some (.slice a t.C.length c) := by rw [← hv]; exact (M1.out.ob.blk).2.1 11
  clear hv
  go_wp2_with fail
  refine wp_run (M := (fun _ => False)) (stages [([true, true, true, true, false, true, false], 4), ([false, false, false, false, false, false, false], 6)] [false, false, false, false, false, false, false]) (by kernel_rfl) (by kernel_rfl) ?_
  refine run_stage rfl ?_
  simp only [pickAt]
  repeat (go_big_quiet_step (fail))
  refine wpQuiet_nil ?_
  refine run_want rfl ?_
  intro A hA
  go_simp
  refine (clamp_ref _ _ _ _).mono ?_
  rintro e w' ⟨rfl, rfl⟩
  rw [HI.out]
  refine hA _ _ ((Kept.refl _ _)) ?_
  try simp only [Act.put, List.setIfInBounds_toArray, List.set_cons_zero, List.set_cons_succ]
  clear A hA
  refine run_stage rfl ?_
  simp only [pickAt]
  repeat (go_big_quiet_step (fail))
  refine wpQuiet_nil ?_
  refine run_want rfl ?_
  intro A hA
  go_simp
  have hpu := mpush_no m U uc t N i x w1.drew (M1.out.keptF (Kept.drew _ _)) HO.out hN HXO.out hf
  unfold It.val at hpu
  refine hpu.mono ?_
  rintro e w2 ⟨rfl, hb2⟩
  have K2 : Hid (Kept (fun _ => False) w1 w2) := Lib.hid ((Kept.drew _ w1).trans (Kept.of_below hb2))
  have M2 := Lib.hid (M1.out.keptF K2.out)
  have OX2 := Lib.hid (OX.out.kept K2.out (fun h => h))
  have B2 := Lib.hid (HB.out.trans (K2.out.below.mono HB.out.size))
  refine hA _ _ (Kept.of_below hb2) ?_
  try simp only [Act.put, List.setIfInBounds_toArray, List.set_cons_zero, List.set_cons_succ]
  clear A hA
  clear hb2 hpu lx fx cx0 cx1 cx2 cx3 cx4 cx5 cx6 cx7 cx8 cx9 cx10 lm fm cm1 cm2 cl
  refine run_last ?_
  simp only [pickAt]
  repeat (go_big_quiet_step (fail))
  refine wpQuiet_nil ?_
  obtain ⟨lx, cx, fx⟩ := OX2.out.blk
  have cx0 : w2.cell? ⟨X, 0, none⟩ = some (.int .i64 x.kind) := cx 0
  have cx1 : w2.cell? ⟨X, 1, none⟩ = some (.int .i64 x.src) := cx 1
  have cx2 : w2.cell? ⟨X, 2, none⟩ = some (.int .i64 x.dst) := cx 2
  have cx3 : w2.cell? ⟨X, 3, none⟩ = some (.int .i64 x.prio) := cx 3
  have cx4 : w2.cell? ⟨X, 4, none⟩ = some (.int .u64 x.msg) := cx 4
  have cx5 : w2.cell? ⟨X, 5, none⟩ = some (.int .i64 x.off) := cx 5
  have cx6 : w2.cell? ⟨X, 6, none⟩ = some (.int .i64 x.len) := cx 6
  have cx7 : w2.cell? ⟨X, 7, none⟩ = some (.int .i64 x.total) := cx 7
  have cx8 : w2.cell? ⟨X, 8, none⟩ = some (.int .i64 x.num) := cx 8
  have cx9 : w2.cell? ⟨X, 9, none⟩ = some (.slice x.da x.dn x.dc) := cx 9
  have cx10 : w2.cell? ⟨X, 10, none⟩ = some (.int .i64 x.path) := cx 10
  clear cx
  have lm := M2.out.ob.lt
  have cm2 : w2.cell? ⟨m, 2, none⟩ = some (.bool t.trim) := (M2.out.ob.blk).2.1 2
  rcases HD.out with hd | ⟨hd, hd2⟩
  · rw [hd] at cm2
    go_wp2_with fail
    go_ret
    exact ⟨rfl, HX.out ▸ B2.out⟩
  · rw [hd] at cm2
    go_wp2_with fail
    go_ret
    exact ⟨rfl, HX.out ▸ B2.out⟩
set_option maxRecDepth 100000 in
set_option maxHeartbeats 4000000 in
theorem mput_trim (m : Nat) (U : Nat → Value) (uc : Value) (t : Mp) (N : Nat) (i : Nat) (x : It) (w : World) (h : Mo m U uc t w) (ho : t.ok N) (hN : N ≤ 100000) (hx : x.ok2) (hk : (x.kind == 11) = false) (hp : clampI x.prio 0 7 = i) (hf : t.room < msum t.L 8 + x.bytes) (ht : t.trim = true) (hk1 : x.kind = 1) (hf2 : msum t.L 8 + 26 ≤ t.room) : Calls Try.prog 19 #[.pointer (some ⟨m, 0, none⟩), x.val] w fun e w' => e = .returned (.int .i64 2) ∧ MoPost m { t with L := upd t.L 7 (t.L 7 ++ [x.hdr 7]) } w w' := by
  have HI := Lib.hid hp
  have HO := Lib.hid ho
  have HXO := Lib.hid hx
  have HK1 := Lib.hid hk1
  clear hp ho hx hk1
  unfold It.val
  have HM := Lib.hid h
  clear h
  go_enter Try.func19, Try.ntmps19
  go_upto_region 1 with fail
  have OX := Lib.hid (Ob.new w #[.int .i64 x.kind, .int .i64 x.src, .int .i64 x.dst, .int .i64 x.prio, .int .u64 x.msg, .int .i64 x.off, .int .i64 x.len, .int .i64 x.total, .int .i64 x.num, .slice x.da x.dn x.dc, .int .i64 x.path] TX)
  have HB := Lib.hid ((Below.refl w.heap.size w).alloc (Nat.le_refl _) (.cells #[.int .i64 x.kind, .int .i64 x.src, .int .i64 x.dst, .int .i64 x.prio, .int .u64 x.msg, .int .i64 x.off, .int .i64 x.len, .int .i64 x.total, .int .i64 x.num, .slice x.da x.dn x.dc, .int .i64 x.path] TX))
  have M1 := Lib.hid (HM.out.below HB.out)
  generalize w.alloc (.cells #[.int .i64 x.kind, .int .i64 x.src, .int .i64 x.dst, .int .i64 x.prio, .int .u64 x.msg, .int .i64 x.off, .int .i64 x.len, .int .i64 x.total, .int .i64 x.num, .slice x.da x.dn x.dc, .int .i64 x.path] TX) = w1 at *
  obtain ⟨X, HX⟩ : ∃ X, Hid (w.heap.size = X) := ⟨_, Lib.hid rfl⟩
  rw [HX.out] at OX ⊢
  obtain ⟨lx, cx, fx⟩ := OX.out.blk
  have cx0 : w1.cell? ⟨X, 0, none⟩ = some (.int .i64 x.kind) := cx 0
  have cx1 : w1.cell? ⟨X, 1, none⟩ = some (.int .i64 x.src) := cx 1
  have cx2 : w1.cell? ⟨X, 2, none⟩ = some (.int .i64 x.dst) := cx 2
  have cx3 : w1.cell? ⟨X, 3, none⟩ = some (.int .i64 x.prio) := cx 3
  have cx4 : w1.cell? ⟨X, 4, none⟩ = some (.int .u64 x.msg) := cx 4
  have cx5 : w1.cell? ⟨X, 5, none⟩ = some (.int .i64 x.off) := cx 5
  have cx6 : w1.cell? ⟨X, 6, none⟩ = some (.int .i64 x.len) := cx 6
  have cx7 : w1.cell? ⟨X, 7, none⟩ = some (.int .i64 x.total) := cx 7
  have cx8 : w1.cell? ⟨X, 8, none⟩ = some (.int .i64 x.num) := cx 8
  have cx9 : w1.cell? ⟨X, 9, none⟩ = some (.slice x.da x.dn x.dc) := cx 9
  have cx10 : w1.cell? ⟨X, 10, none⟩ = some (.int .i64 x.path) := cx 10
  clear cx
  have lm := M1.out.ob.lt
  have fm := (M1.out.ob.blk).2.2
  have cm1 : w1.cell? ⟨m, 1, none⟩ = some (.int .i64 t.most) := (M1.out.ob.blk).2.1 1
  have cm2 : w1.cell? ⟨m, 2, none⟩ = some (.bool t.trim) := (M1.out.ob.blk).2.1 2
  obtain ⟨a, c, hv, hlc, hcm⟩ := M1.out.cr.form
  have HV := Lib.hid hv
  have cl : w1.cell? ⟨m, 11, none⟩ = some (.slice a t.C.length c) := by rw [← hv]; exact (M1.out.ob.blk).2.1 11
  clear hv
  go_wp2_with fail
  refine wp_run (M := (fun _ => False)) (stages [([true, true, true, true, false, true, false], 4), ([false, false, false, false, false, false, false], 6)] [false, false, false, false, false, false, false]) (by kernel_rfl) (by kernel_rfl) ?_
  refine run_stage rfl ?_
  simp only [pickAt]
  repeat (go_big_quiet_step (fail))
  refine wpQuiet_nil ?_
  refine run_want rfl ?_
  intro A hA
  go_simp
  refine (clamp_ref _ _ _ _).mono ?_
  rintro e w' ⟨rfl, rfl⟩
  rw [HI.out]
  refine hA _ _ ((Kept.refl _ _)) ?_
  try simp only [Act.put, List.setIfInBounds_toArray, List.set_cons_zero, List.set_cons_succ]
  clear A hA
  refine run_stage rfl ?_
  simp only [pickAt]
  repeat (go_big_quiet_step (fail))
  refine wpQuiet_nil ?_
  refine run_want rfl ?_
  intro A hA
  go_simp
  have hpu := mpush_no m U uc t N i x w1.drew (M1.out.keptF (Kept.drew _ _)) HO.out hN HXO.out hf
  unfold It.val at hpu
  refine hpu.mono ?_
  rintro e w2 ⟨rfl, hb2⟩
  have K2 : Hid (Kept (fun _ => False) w1 w2) := Lib.hid ((Kept.drew _ w1).trans (Kept.of_below hb2))
  have M2 := Lib.hid (M1.out.keptF K2.out)
  have OX2 := Lib.hid (OX.out.kept K2.out (fun h => h))
  have B2 := Lib.hid (HB.out.trans (K2.out.below.mono HB.out.size))
  refine hA _ _ (Kept.of_below hb2) ?_
  try simp only [Act.put, List.setIfInBounds_toArray, List.set_cons_zero, List.set_cons_succ]
  clear A hA
  clear hb2 hpu lx fx cx0 cx1 cx2 cx3 cx4 cx5 cx6 cx7 cx8 cx9 cx10 lm fm cm1 cm2 cl
  refine run_last ?_
  simp only [pickAt]
  repeat (go_big_quiet_step (fail))
  refine wpQuiet_nil ?_
  obtain ⟨lx, cx, fx⟩ := OX2.out.blk
  have cx0 : w2.cell? ⟨X, 0, none⟩ = some (.int .i64 x.kind) := cx 0
  have cx1 : w2.cell? ⟨X, 1, none⟩ = some (.int .i64 x.src) := cx 1
  have cx2 : w2.cell? ⟨X, 2, none⟩ = some (.int .i64 x.dst) := cx 2
  have cx3 : w2.cell? ⟨X, 3, none⟩ = some (.int .i64 x.prio) := cx 3
  have cx4 : w2.cell? ⟨X, 4, none⟩ = some (.int .u64 x.msg) := cx 4
  have cx5 : w2.cell? ⟨X, 5, none⟩ = some (.int .i64 x.off) := cx 5
  have cx6 : w2.cell? ⟨X, 6, none⟩ = some (.int .i64 x.len) := cx 6
  have cx7 : w2.cell? ⟨X, 7, none⟩ = some (.int .i64 x.total) := cx 7
  have cx8 : w2.cell? ⟨X, 8, none⟩ = some (.int .i64 x.num) := cx 8
  have cx9 : w2.cell? ⟨X, 9, none⟩ = some (.slice x.da x.dn x.dc) := cx 9
  have cx10 : w2.cell? ⟨X, 10, none⟩ = some (.int .i64 x.path) := cx 10
  clear cx
  have lm := M2.out.ob.lt
  have cm2 : w2.cell? ⟨m, 2, none⟩ = some (.bool t.trim) := (M2.out.ob.blk).2.1 2
  rw [ht] at cm2
  have hk1 : x.kind = 1 := HK1.out
  go_upto_region 10 with fail
  clear hk1 cm2
  have htr := mtrimmed x w2
  unfold It.frv at htr
  go_wp2_with fail
  refine (htr).mono ?_
  rintro e w3 ⟨rfl, hb3⟩
  have M3 := Lib.hid (M2.out.below hb3)
  have OX3 := Lib.hid (OX2.out.below hb3)
  have B3 := Lib.hid (B2.out.trans (hb3.mono B2.out.size))
  clear hb3 htr lx fx cx0 cx1 cx2 cx3 cx4 cx5 cx6 cx7 cx8 cx9 cx10 lm
  obtain ⟨y0, HY0⟩ : ∃ y, Hid (x.hdr 0 = y) := ⟨_, Lib.hid rfl⟩
  rw [HY0.out]
  go_upto_region 11 with fail
  have OZ := Lib.hid (Ob.new w3 #[.int .i64 y0.kind, .int .i64 y0.src, .int .i64 y0.dst, .int .i64 y0.prio, .int .u64 y0.msg, .int .i64 y0.off, .int .i64 y0.len, .int .i64 y0.total, .int .i64 y0.num, .slice y0.da y0.dn y0.dc] TFr)
  have KA : Hid (Below w3.heap.size w3 (w3.alloc (.cells #[.int .i64 y0.kind, .int .i64 y0.src, .int .i64 y0.dst, .int .i64 y0.prio, .int .u64 y0.msg, .int .i64 y0.off, .int .i64 y0.len, .int .i64 y0.total, .int .i64 y0.num, .slice y0.da y0.dn y0.dc] TFr))) := Lib.hid ((Below.refl _ w3).alloc (Nat.le_refl _) _)
  have M4 := Lib.hid (M3.out.below KA.out)
  have OX4 := Lib.hid (OX3.out.below KA.out)
  have B4 := Lib.hid (B3.out.trans (KA.out.mono B3.out.size))
  have lX3 := OX3.out.lt
  obtain ⟨Z, HZ⟩ : ∃ Z, Hid (w3.heap.size = Z) := ⟨_, Lib.hid rfl⟩
  rw [HZ.out] at OZ ⊢
  clear KA
  generalize w3.alloc (.cells #[.int .i64 y0.kind, .int .i64 y0.src, .int .i64 y0.dst, .int .i64 y0.prio, .int .u64 y0.msg, .int .i64 y0.off, .int .i64 y0.len, .int .i64 y0.total, .int .i64 y0.num, .slice y0.da y0.dn y0.dc] TFr) = w4 at *
  obtain ⟨lz, cz, fz⟩ := OZ.out.blk
  have cz0 : w4.cell? ⟨Z, 0, none⟩ = some (.int .i64 y0.kind) := cz 0
  have cz1 : w4.cell? ⟨Z, 1, none⟩ = some (.int .i64 y0.src) := cz 1
  have cz2 : w4.cell? ⟨Z, 2, none⟩ = some (.int .i64 y0.dst) := cz 2
  have cz3 : w4.cell? ⟨Z, 3, none⟩ = some (.int .i64 y0.prio) := cz 3
  have cz4 : w4.cell? ⟨Z, 4, none⟩ = some (.int .u64 y0.msg) := cz 4
  have cz5 : w4.cell? ⟨Z, 5, none⟩ = some (.int .i64 y0.off) := cz 5
  have cz6 : w4.cell? ⟨Z, 6, none⟩ = some (.int .i64 y0.len) := cz 6
  have cz7 : w4.cell? ⟨Z, 7, none⟩ = some (.int .i64 y0.total) := cz 7
  have cz8 : w4.cell? ⟨Z, 8, none⟩ = some (.int .i64 y0.num) := cz 8
  have cz9 : w4.cell? ⟨Z, 9, none⟩ = some (.slice y0.da y0.dn y0.dc) := cz 9
  clear cz
  go_upto_region 12 with fail
  have hXZ : X ≠ Z := by have := HZ.out; omega
  have hmZ : ¬ Only Z m := fun hh => absurd (Ty.one (by rw [show m = Z from hh] at M4; exact M4.out.ob.ty) OZ.out.ty) (by decide)
  have OZ5 : Hid (Ob (w4.setCell ⟨Z, 3, none⟩ (.int .i64 7)) Z #[.int .i64 (x.hdr 7).kind, .int .i64 (x.hdr 7).src, .int .i64 (x.hdr 7).dst, .int .i64 (x.hdr 7).prio, .int .u64 (x.hdr 7).msg, .int .i64 (x.hdr 7).off, .int .i64 (x.hdr 7).len, .int .i64 (x.hdr 7).total, .int .i64 (x.hdr 7).num, .slice (x.hdr 7).da (x.hdr 7).dn (x.hdr 7).dc] TFr) := Lib.hid (by
    refine Ob.cast (OZ.out.set 3 _) ?_
    rw [← HY0.out]
    rfl)
  have OX5 := Lib.hid (OX4.out.other ⟨Z, 3, none⟩ (.int .i64 7) hXZ)
  have M5 := Lib.hid (M4.out.kept (Kept.setO (b := Z) (i := 3) (v := .int .i64 7) (Kept.refl (Only Z) w4)) hmZ (fun g hg _ => ⟨TFr, by rw [show g = Z from hg]; exact OZ.out.ty, by decide⟩))
  have B5 := Lib.hid (B4.out.setCell (p := ⟨Z, 3, none⟩) (show w.heap.size ≤ Z by have := HZ.out; have := HX.out; omega) (.int .i64 7))
  clear lz fz cz0 cz1 cz2 cz3 cz4 cz5 cz6 cz7 cz8 cz9
  generalize w4.setCell ⟨Z, 3, none⟩ (.int .i64 7) = w5 at *
  obtain ⟨y, HY⟩ : ∃ y, Hid (x.hdr 7 = y) := ⟨_, Lib.hid rfl⟩
  rw [HY.out] at OZ5
  have HYP : Hid (y.path = x.path) := Lib.hid (by rw [← HY.out]; rfl)
  obtain ⟨lz, cz, fz⟩ := OZ5.out.blk
  have cz0 : w5.cell? ⟨Z, 0, none⟩ = some (.int .i64 y.kind) := cz 0
  have cz1 : w5.cell? ⟨Z, 1, none⟩ = some (.int .i64 y.src) := cz 1
  have cz2 : w5.cell? ⟨Z, 2, none⟩ = some (.int .i64 y.dst) := cz 2
  have cz3 : w5.cell? ⟨Z, 3, none⟩ = some (.int .i64 y.prio) := cz 3
  have cz4 : w5.cell? ⟨Z, 4, none⟩ = some (.int .u64 y.msg) := cz 4
  have cz5 : w5.cell? ⟨Z, 5, none⟩ = some (.int .i64 y.off) := cz 5
  have cz6 : w5.cell? ⟨Z, 6, none⟩ = some (.int .i64 y.len) := cz 6
  have cz7 : w5.cell? ⟨Z, 7, none⟩ = some (.int .i64 y.total) := cz 7
  have cz8 : w5.cell? ⟨Z, 8, none⟩ = some (.int .i64 y.num) := cz 8
  have cz9 : w5.cell? ⟨Z, 9, none⟩ = some (.slice y.da y.dn y.dc) := cz 9
  clear cz
  have lX := OX5.out.lt
  have cX10 : w5.cell? ⟨X, 10, none⟩ = some (.int .i64 y.path) := by rw [HYP.out]; exact (OX5.out.blk).2.1 10
  have HYO : Hid (y.ok2) := Lib.hid (by rw [← HY.out]; exact ⟨Nat.zero_le _, HXO.out.len⟩)
  have HYB : Hid (y.bytes = 26) := Lib.hid (by rw [← HY.out]; rfl)
  have hpu := mpush_yes m U uc t N 7 y w5 M5.out HO.out hN HYO.out (by decide) (by rw [HYB.out]; exact hf2)
  unfold It.val at hpu
  go_wp2_with fail
  refine (hpu).mono ?_
  rintro e w6 ⟨rfl, U6, uc6, hm6, hk6⟩
  have M6 := Lib.hid hm6
  have K6 := Lib.hid ((Kept.of_below (M := Only m) B5.out).trans hk6)
  clear hm6 hk6 hpu
  go_wp2_with fail
  go_ret
  exact ⟨rfl, U6, uc6, by rw [HY.out]; exact M6.out, K6.out⟩
set_option maxRecDepth 100000 in
set_option maxHeartbeats 4000000 in
theorem mput_trimno (m : Nat) (U : Nat → Value) (uc : Value) (t : Mp) (N : Nat) (i : Nat) (x : It) (w : World) (h : Mo m U uc t w) (ho : t.ok N) (hN : N ≤ 100000) (hx : x.ok2) (hk : (x.kind == 11) = false) (hp : clampI x.prio 0 7 = i) (hf : t.room < msum t.L 8 + x.bytes) (ht : t.trim = true) (hk1 : x.kind = 1) (hf2 : t.room < msum t.L 8 + 26) : Calls Try.prog 19 #[.pointer (some ⟨m, 0, none⟩), x.val] w fun e w' => e = .returned (.int .i64 3) ∧ Below w.heap.size w w' := by
  have HI := Lib.hid hp
  have HO := Lib.hid ho
  have HXO := Lib.hid hx
  have HK1 := Lib.hid hk1
  clear hp ho hx hk1
  unfold It.val
  have HM := Lib.hid h
  clear h
  go_enter Try.func19, Try.ntmps19
  go_upto_region 1 with fail
  have OX := Lib.hid (Ob.new w #[.int .i64 x.kind, .int .i64 x.src, .int .i64 x.dst, .int .i64 x.prio, .int .u64 x.msg, .int .i64 x.off, .int .i64 x.len, .int .i64 x.total, .int .i64 x.num, .slice x.da x.dn x.dc, .int .i64 x.path] TX)
  have HB := Lib.hid ((Below.refl w.heap.size w).alloc (Nat.le_refl _) (.cells #[.int .i64 x.kind, .int .i64 x.src, .int .i64 x.dst, .int .i64 x.prio, .int .u64 x.msg, .int .i64 x.off, .int .i64 x.len, .int .i64 x.total, .int .i64 x.num, .slice x.da x.dn x.dc, .int .i64 x.path] TX))
  have M1 := Lib.hid (HM.out.below HB.out)
  generalize w.alloc (.cells #[.int .i64 x.kind, .int .i64 x.src, .int .i64 x.dst, .int .i64 x.prio, .int .u64 x.msg, .int .i64 x.off, .int .i64 x.len, .int .i64 x.total, .int .i64 x.num, .slice x.da x.dn x.dc, .int .i64 x.path] TX) = w1 at *
  obtain ⟨X, HX⟩ : ∃ X, Hid (w.heap.size = X) := ⟨_, Lib.hid rfl⟩
  rw [HX.out] at OX ⊢
  obtain ⟨lx, cx, fx⟩ := OX.out.blk
  have cx0 : w1.cell? ⟨X, 0, none⟩ = some (.int .i64 x.kind) := cx 0
  have cx1 : w1.cell? ⟨X, 1, none⟩ = some (.int .i64 x.src) := cx 1
  have cx2 : w1.cell? ⟨X, 2, none⟩ = some (.int .i64 x.dst) := cx 2
  have cx3 : w1.cell? ⟨X, 3, none⟩ = some (.int .i64 x.prio) := cx 3
  have cx4 : w1.cell? ⟨X, 4, none⟩ = some (.int .u64 x.msg) := cx 4
  have cx5 : w1.cell? ⟨X, 5, none⟩ = some (.int .i64 x.off) := cx 5
  have cx6 : w1.cell? ⟨X, 6, none⟩ = some (.int .i64 x.len) := cx 6
  have cx7 : w1.cell? ⟨X, 7, none⟩ = some (.int .i64 x.total) := cx 7
  have cx8 : w1.cell? ⟨X, 8, none⟩ = some (.int .i64 x.num) := cx 8
  have cx9 : w1.cell? ⟨X, 9, none⟩ = some (.slice x.da x.dn x.dc) := cx 9
  have cx10 : w1.cell? ⟨X, 10, none⟩ = some (.int .i64 x.path) := cx 10
  clear cx
  have lm := M1.out.ob.lt
  have fm := (M1.out.ob.blk).2.2
  have cm1 : w1.cell? ⟨m, 1, none⟩ = some (.int .i64 t.most) := (M1.out.ob.blk).2.1 1
  have cm2 : w1.cell? ⟨m, 2, none⟩ = some (.bool t.trim) := (M1.out.ob.blk).2.1 2
  obtain ⟨a, c, hv, hlc, hcm⟩ := M1.out.cr.form
  have HV := Lib.hid hv
  have cl : w1.cell? ⟨m, 11, none⟩ = some (.slice a t.C.length c) := by rw [← hv]; exact (M1.out.ob.blk).2.1 11
  clear hv
  go_wp2_with fail
  refine wp_run (M := (fun _ => False)) (stages [([true, true, true, true, false, true, false], 4), ([false, false, false, false, false, false, false], 6)] [false, false, false, false, false, false, false]) (by kernel_rfl) (by kernel_rfl) ?_
  refine run_stage rfl ?_
  simp only [pickAt]
  repeat (go_big_quiet_step (fail))
  refine wpQuiet_nil ?_
  refine run_want rfl ?_
  intro A hA
  go_simp
  refine (clamp_ref _ _ _ _).mono ?_
  rintro e w' ⟨rfl, rfl⟩
  rw [HI.out]
  refine hA _ _ ((Kept.refl _ _)) ?_
  try simp only [Act.put, List.setIfInBounds_toArray, List.set_cons_zero, List.set_cons_succ]
  clear A hA
  refine run_stage rfl ?_
  simp only [pickAt]
  repeat (go_big_quiet_step (fail))
  refine wpQuiet_nil ?_
  refine run_want rfl ?_
  intro A hA
  go_simp
  have hpu := mpush_no m U uc t N i x w1.drew (M1.out.keptF (Kept.drew _ _)) HO.out hN HXO.out hf
  unfold It.val at hpu
  refine hpu.mono ?_
  rintro e w2 ⟨rfl, hb2⟩
  have K2 : Hid (Kept (fun _ => False) w1 w2) := Lib.hid ((Kept.drew _ w1).trans (Kept.of_below hb2))
  have M2 := Lib.hid (M1.out.keptF K2.out)
  have OX2 := Lib.hid (OX.out.kept K2.out (fun h => h))
  have B2 := Lib.hid (HB.out.trans (K2.out.below.mono HB.out.size))
  refine hA _ _ (Kept.of_below hb2) ?_
  try simp only [Act.put, List.setIfInBounds_toArray, List.set_cons_zero, List.set_cons_succ]
  clear A hA
  clear hb2 hpu lx fx cx0 cx1 cx2 cx3 cx4 cx5 cx6 cx7 cx8 cx9 cx10 lm fm cm1 cm2 cl
  refine run_last ?_
  simp only [pickAt]
  repeat (go_big_quiet_step (fail))
  refine wpQuiet_nil ?_
  obtain ⟨lx, cx, fx⟩ := OX2.out.blk
  have cx0 : w2.cell? ⟨X, 0, none⟩ = some (.int .i64 x.kind) := cx 0
  have cx1 : w2.cell? ⟨X, 1, none⟩ = some (.int .i64 x.src) := cx 1
  have cx2 : w2.cell? ⟨X, 2, none⟩ = some (.int .i64 x.dst) := cx 2
  have cx3 : w2.cell? ⟨X, 3, none⟩ = some (.int .i64 x.prio) := cx 3
  have cx4 : w2.cell? ⟨X, 4, none⟩ = some (.int .u64 x.msg) := cx 4
  have cx5 : w2.cell? ⟨X, 5, none⟩ = some (.int .i64 x.off) := cx 5
  have cx6 : w2.cell? ⟨X, 6, none⟩ = some (.int .i64 x.len) := cx 6
  have cx7 : w2.cell? ⟨X, 7, none⟩ = some (.int .i64 x.total) := cx 7
  have cx8 : w2.cell? ⟨X, 8, none⟩ = some (.int .i64 x.num) := cx 8
  have cx9 : w2.cell? ⟨X, 9, none⟩ = some (.slice x.da x.dn x.dc) := cx 9
  have cx10 : w2.cell? ⟨X, 10, none⟩ = some (.int .i64 x.path) := cx 10
  clear cx
  have lm := M2.out.ob.lt
  have cm2 : w2.cell? ⟨m, 2, none⟩ = some (.bool t.trim) := (M2.out.ob.blk).2.1 2
  rw [ht] at cm2
  have hk1 : x.kind = 1 := HK1.out
  go_upto_region 10 with fail
  clear hk1 cm2
  have htr := mtrimmed x w2
  unfold It.frv at htr
  go_wp2_with fail
  refine (htr).mono ?_
  rintro e w3 ⟨rfl, hb3⟩
  have M3 := Lib.hid (M2.out.below hb3)
  have OX3 := Lib.hid (OX2.out.below hb3)
  have B3 := Lib.hid (B2.out.trans (hb3.mono B2.out.size))
  clear hb3 htr lx fx cx0 cx1 cx2 cx3 cx4 cx5 cx6 cx7 cx8 cx9 cx10 lm
  obtain ⟨y0, HY0⟩ : ∃ y, Hid (x.hdr 0 = y) := ⟨_, Lib.hid rfl⟩
  rw [HY0.out]
  go_upto_region 11 with fail
  have OZ := Lib.hid (Ob.new w3 #[.int .i64 y0.kind, .int .i64 y0.src, .int .i64 y0.dst, .int .i64 y0.prio, .int .u64 y0.msg, .int .i64 y0.off, .int .i64 y0.len, .int .i64 y0.total, .int .i64 y0.num, .slice y0.da y0.dn y0.dc] TFr)
  have KA : Hid (Below w3.heap.size w3 (w3.alloc (.cells #[.int .i64 y0.kind, .int .i64 y0.src, .int .i64 y0.dst, .int .i64 y0.prio, .int .u64 y0.msg, .int .i64 y0.off, .int .i64 y0.len, .int .i64 y0.total, .int .i64 y0.num, .slice y0.da y0.dn y0.dc] TFr))) := Lib.hid ((Below.refl _ w3).alloc (Nat.le_refl _) _)
  have M4 := Lib.hid (M3.out.below KA.out)
  have OX4 := Lib.hid (OX3.out.below KA.out)
  have B4 := Lib.hid (B3.out.trans (KA.out.mono B3.out.size))
  have lX3 := OX3.out.lt
  obtain ⟨Z, HZ⟩ : ∃ Z, Hid (w3.heap.size = Z) := ⟨_, Lib.hid rfl⟩
  rw [HZ.out] at OZ ⊢
  clear KA
  generalize w3.alloc (.cells #[.int .i64 y0.kind, .int .i64 y0.src, .int .i64 y0.dst, .int .i64 y0.prio, .int .u64 y0.msg, .int .i64 y0.off, .int .i64 y0.len, .int .i64 y0.total, .int .i64 y0.num, .slice y0.da y0.dn y0.dc] TFr) = w4 at *
  obtain ⟨lz, cz, fz⟩ := OZ.out.blk
  have cz0 : w4.cell? ⟨Z, 0, none⟩ = some (.int .i64 y0.kind) := cz 0
  have cz1 : w4.cell? ⟨Z, 1, none⟩ = some (.int .i64 y0.src) := cz 1
  have cz2 : w4.cell? ⟨Z, 2, none⟩ = some (.int .i64 y0.dst) := cz 2
  have cz3 : w4.cell? ⟨Z, 3, none⟩ = some (.int .i64 y0.prio) := cz 3
  have cz4 : w4.cell? ⟨Z, 4, none⟩ = some (.int .u64 y0.msg) := cz 4
  have cz5 : w4.cell? ⟨Z, 5, none⟩ = some (.int .i64 y0.off) := cz 5
  have cz6 : w4.cell? ⟨Z, 6, none⟩ = some (.int .i64 y0.len) := cz 6
  have cz7 : w4.cell? ⟨Z, 7, none⟩ = some (.int .i64 y0.total) := cz 7
  have cz8 : w4.cell? ⟨Z, 8, none⟩ = some (.int .i64 y0.num) := cz 8
  have cz9 : w4.cell? ⟨Z, 9, none⟩ = some (.slice y0.da y0.dn y0.dc) := cz 9
  clear cz
  go_upto_region 12 with fail
  have hXZ : X ≠ Z := by have := HZ.out; omega
  have hmZ : ¬ Only Z m := fun hh => absurd (Ty.one (by rw [show m = Z from hh] at M4; exact M4.out.ob.ty) OZ.out.ty) (by decide)
  have OZ5 : Hid (Ob (w4.setCell ⟨Z, 3, none⟩ (.int .i64 7)) Z #[.int .i64 (x.hdr 7).kind, .int .i64 (x.hdr 7).src, .int .i64 (x.hdr 7).dst, .int .i64 (x.hdr 7).prio, .int .u64 (x.hdr 7).msg, .int .i64 (x.hdr 7).off, .int .i64 (x.hdr 7).len, .int .i64 (x.hdr 7).total, .int .i64 (x.hdr 7).num, .slice (x.hdr 7).da (x.hdr 7).dn (x.hdr 7).dc] TFr) := Lib.hid (by
    refine Ob.cast (OZ.out.set 3 _) ?_
    rw [← HY0.out]
    rfl)
  have OX5 := Lib.hid (OX4.out.other ⟨Z, 3, none⟩ (.int .i64 7) hXZ)
  have M5 := Lib.hid (M4.out.kept (Kept.setO (b := Z) (i := 3) (v := .int .i64 7) (Kept.refl (Only Z) w4)) hmZ (fun g hg _ => ⟨TFr, by rw [show g = Z from hg]; exact OZ.out.ty, by decide⟩))
  have B5 := Lib.hid (B4.out.setCell (p := ⟨Z, 3, none⟩) (show w.heap.size ≤ Z by have := HZ.out; have := HX.out; omega) (.int .i64 7))
  clear lz fz cz0 cz1 cz2 cz3 cz4 cz5 cz6 cz7 cz8 cz9
  generalize w4.setCell ⟨Z, 3, none⟩ (.int .i64 7) = w5 at *
  obtain ⟨y, HY⟩ : ∃ y, Hid (x.hdr 7 = y) := ⟨_, Lib.hid rfl⟩
  rw [HY.out] at OZ5
  have HYP : Hid (y.path = x.path) := Lib.hid (by rw [← HY.out]; rfl)
  obtain ⟨lz, cz, fz⟩ := OZ5.out.blk
  have cz0 : w5.cell? ⟨Z, 0, none⟩ = some (.int .i64 y.kind) := cz 0
  have cz1 : w5.cell? ⟨Z, 1, none⟩ = some (.int .i64 y.src) := cz 1
  have cz2 : w5.cell? ⟨Z, 2, none⟩ = some (.int .i64 y.dst) := cz 2
  have cz3 : w5.cell? ⟨Z, 3, none⟩ = some (.int .i64 y.prio) := cz 3
  have cz4 : w5.cell? ⟨Z, 4, none⟩ = some (.int .u64 y.msg) := cz 4
  have cz5 : w5.cell? ⟨Z, 5, none⟩ = some (.int .i64 y.off) := cz 5
  have cz6 : w5.cell? ⟨Z, 6, none⟩ = some (.int .i64 y.len) := cz 6
  have cz7 : w5.cell? ⟨Z, 7, none⟩ = some (.int .i64 y.total) := cz 7
  have cz8 : w5.cell? ⟨Z, 8, none⟩ = some (.int .i64 y.num) := cz 8
  have cz9 : w5.cell? ⟨Z, 9, none⟩ = some (.slice y.da y.dn y.dc) := cz 9
  clear cz
  have lX := OX5.out.lt
  have cX10 : w5.cell? ⟨X, 10, none⟩ = some (.int .i64 y.path) := by rw [HYP.out]; exact (OX5.out.blk).2.1 10
  have HYO : Hid (y.ok2) := Lib.hid (by rw [← HY.out]; exact ⟨Nat.zero_le _, HXO.out.len⟩)
  have HYB : Hid (y.bytes = 26) := Lib.hid (by rw [← HY.out]; rfl)
  have hpu := mpush_no m U uc t N 7 y w5 M5.out HO.out hN HYO.out (by rw [HYB.out]; exact hf2)
  unfold It.val at hpu
  go_wp2_with fail
  refine (hpu).mono ?_
  rintro e w6 ⟨rfl, hb6⟩
  have B6 := Lib.hid (B5.out.trans (hb6.mono B5.out.size))
  clear hb6 hpu
  go_wp2_with fail
  go_ret
  exact ⟨rfl, HX.out ▸ B6.out⟩
end Go.Proofs.Ythgkminjhpaakaa
