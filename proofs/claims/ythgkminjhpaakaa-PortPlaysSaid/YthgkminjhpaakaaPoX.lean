/- The law's own comparisons (port, chapter 13): same. -/
import Derived.Test.YthgkminjhpaakaaPoY
namespace Go.Proofs.Ythgkminjhpaakaa
open Go.RowKit

theorem plain_eq {y x : It} (h : y.plain = x.plain) : y = x.data y.da y.dc := by
  cases y
  cases x
  simp only [It.plain, It.mk.injEq] at h
  obtain ⟨h1, h2, h3, h4, h5, h6, h7, h8, h9, _, h10, _, h11, h12⟩ := h
  subst h1 h2 h3 h4 h5 h6 h7 h8 h9 h10 h11 h12
  rfl
set_option maxRecDepth 100000 in
set_option maxHeartbeats 4000000 in
theorem msame (x : It) (a : Option Addr) (c : Nat) (w : World) (hl : x.dn = x.bs.length) (hy : Rd w 1 (.slice a x.dn c) x.dn (bcells x.bs)) (hx : Rd w 1 (.slice x.da x.dn x.dc) x.dn (bcells x.bs)) : Calls Try.prog 44 #[(x.data a c).frv, x.frv] w fun e w' => e = .returned (.bool true) ∧ Below w.heap.size w w' := by
  obtain ⟨L, HL⟩ : ∃ L, Hid (x.bs = L) := ⟨_, Lib.hid rfl⟩
  obtain ⟨D, HD⟩ : ∃ D, Hid (x.dn = D) := ⟨_, Lib.hid rfl⟩
  rw [HL.out, HD.out] at hl hy hx
  have HLL := Lib.hid hl
  rw [HLL.out] at hy hx HD
  clear hl
  show Calls Try.prog 44 #[.agg #[.int .i64 x.kind, .int .i64 x.src, .int .i64 x.dst, .int .i64 x.prio, .int .u64 x.msg, .int .i64 x.off, .int .i64 x.len, .int .i64 x.total, .int .i64 x.num, .slice a x.dn c], .agg #[.int .i64 x.kind, .int .i64 x.src, .int .i64 x.dst, .int .i64 x.prio, .int .u64 x.msg, .int .i64 x.off, .int .i64 x.len, .int .i64 x.total, .int .i64 x.num, .slice x.da x.dn x.dc]] w _
  rw [HD.out]
  have HYR := Lib.hid hy
  have HXR := Lib.hid hx
  clear hy hx
  have HB := Lib.hid (((Below.refl w.heap.size w).alloc (Nat.le_refl _) (.cells #[.int .i64 x.kind, .int .i64 x.src, .int .i64 x.dst, .int .i64 x.prio, .int .u64 x.msg, .int .i64 x.off, .int .i64 x.len, .int .i64 x.total, .int .i64 x.num, .slice a L.length c] TFr)).alloc (by rw [World.size_alloc]; omega) (.cells #[.int .i64 x.kind, .int .i64 x.src, .int .i64 x.dst, .int .i64 x.prio, .int .u64 x.msg, .int .i64 x.off, .int .i64 x.len, .int .i64 x.total, .int .i64 x.num, .slice x.da L.length x.dc] TFr))
  go_enter Try.func44, Try.ntmps44
  go_wp2_with (first | (refine wpList_str rfl _ _ (.tmp 68) rfl Try.underlying29 Try.underlying5 Try.underlying9 (HYR.out.below HB.out) rfl ?_) | (refine wpList_str rfl _ _ (.tmp 71) rfl Try.underlying29 Try.underlying5 Try.underlying9 (HXR.out.below HB.out) rfl ?_))
  go_ret
  exact ⟨rfl, HB.out⟩
theorem lsame (x : It) (a : Option Addr) (c : Nat) (w : World) (hl : x.dn = x.bs.length) (hy : Rd w 1 (.slice a x.dn c) x.dn (bcells x.bs)) (hx : Rd w 1 (.slice x.da x.dn x.dc) x.dn (bcells x.bs)) : Calls Try.prog 21 #[(x.data a c).val, x.val] w fun e w' => e = .returned (.bool true) ∧ Below w.heap.size w w' := by
  show Calls Try.prog 21 #[.agg #[.int .i64 x.kind, .int .i64 x.src, .int .i64 x.dst, .int .i64 x.prio, .int .u64 x.msg, .int .i64 x.off, .int .i64 x.len, .int .i64 x.total, .int .i64 x.num, .slice a x.dn c, .int .i64 x.path], .agg #[.int .i64 x.kind, .int .i64 x.src, .int .i64 x.dst, .int .i64 x.prio, .int .u64 x.msg, .int .i64 x.off, .int .i64 x.len, .int .i64 x.total, .int .i64 x.num, .slice x.da x.dn x.dc, .int .i64 x.path]] w _
  have HL := Lib.hid hl
  have HYR := Lib.hid hy
  have HXR := Lib.hid hx
  clear hl hy hx
  go_enter Try.func21, Try.ntmps21
  go_upto_region 1 with fail
  have OA := Lib.hid ((Ob.new w #[.int .i64 x.kind, .int .i64 x.src, .int .i64 x.dst, .int .i64 x.prio, .int .u64 x.msg, .int .i64 x.off, .int .i64 x.len, .int .i64 x.total, .int .i64 x.num, .slice a x.dn c, .int .i64 x.path] TIt).alloc (.cells #[.int .i64 x.kind, .int .i64 x.src, .int .i64 x.dst, .int .i64 x.prio, .int .u64 x.msg, .int .i64 x.off, .int .i64 x.len, .int .i64 x.total, .int .i64 x.num, .slice x.da x.dn x.dc, .int .i64 x.path] TX))
  have OB := Lib.hid (Ob.new (w.alloc (.cells #[.int .i64 x.kind, .int .i64 x.src, .int .i64 x.dst, .int .i64 x.prio, .int .u64 x.msg, .int .i64 x.off, .int .i64 x.len, .int .i64 x.total, .int .i64 x.num, .slice a x.dn c, .int .i64 x.path] TIt)) #[.int .i64 x.kind, .int .i64 x.src, .int .i64 x.dst, .int .i64 x.prio, .int .u64 x.msg, .int .i64 x.off, .int .i64 x.len, .int .i64 x.total, .int .i64 x.num, .slice x.da x.dn x.dc, .int .i64 x.path] TX)
  have HB := Lib.hid (((Below.refl w.heap.size w).alloc (Nat.le_refl _) (.cells #[.int .i64 x.kind, .int .i64 x.src, .int .i64 x.dst, .int .i64 x.prio, .int .u64 x.msg, .int .i64 x.off, .int .i64 x.len, .int .i64 x.total, .int .i64 x.num, .slice a x.dn c, .int .i64 x.path] TIt)).alloc (by rw [World.size_alloc]; omega) (.cells #[.int .i64 x.kind, .int .i64 x.src, .int .i64 x.dst, .int .i64 x.prio, .int .u64 x.msg, .int .i64 x.off, .int .i64 x.len, .int .i64 x.total, .int .i64 x.num, .slice x.da x.dn x.dc, .int .i64 x.path] TX))
  rw [World.size_alloc] at OB
  generalize (w.alloc (.cells #[.int .i64 x.kind, .int .i64 x.src, .int .i64 x.dst, .int .i64 x.prio, .int .u64 x.msg, .int .i64 x.off, .int .i64 x.len, .int .i64 x.total, .int .i64 x.num, .slice a x.dn c, .int .i64 x.path] TIt)).alloc (.cells #[.int .i64 x.kind, .int .i64 x.src, .int .i64 x.dst, .int .i64 x.prio, .int .u64 x.msg, .int .i64 x.off, .int .i64 x.len, .int .i64 x.total, .int .i64 x.num, .slice x.da x.dn x.dc, .int .i64 x.path] TX) = w1 at *
  obtain ⟨X, HX⟩ : ∃ X, Hid (w.heap.size = X) := ⟨_, Lib.hid rfl⟩
  rw [HX.out] at OA OB ⊢
  obtain ⟨lx, cx, fx⟩ := OA.out.blk
  have ca0 : w1.cell? ⟨X, 0, none⟩ = some (.int .i64 x.kind) := cx 0
  have ca1 : w1.cell? ⟨X, 1, none⟩ = some (.int .i64 x.src) := cx 1
  have ca2 : w1.cell? ⟨X, 2, none⟩ = some (.int .i64 x.dst) := cx 2
  have ca3 : w1.cell? ⟨X, 3, none⟩ = some (.int .i64 x.prio) := cx 3
  have ca4 : w1.cell? ⟨X, 4, none⟩ = some (.int .u64 x.msg) := cx 4
  have ca5 : w1.cell? ⟨X, 5, none⟩ = some (.int .i64 x.off) := cx 5
  have ca6 : w1.cell? ⟨X, 6, none⟩ = some (.int .i64 x.len) := cx 6
  have ca7 : w1.cell? ⟨X, 7, none⟩ = some (.int .i64 x.total) := cx 7
  have ca8 : w1.cell? ⟨X, 8, none⟩ = some (.int .i64 x.num) := cx 8
  have ca9 : w1.cell? ⟨X, 9, none⟩ = some (.slice a x.dn c) := cx 9
  have ca10 : w1.cell? ⟨X, 10, none⟩ = some (.int .i64 x.path) := cx 10
  obtain ⟨ly, cy, fy⟩ := OB.out.blk
  have cy0 : w1.cell? ⟨X + 1, 0, none⟩ = some (.int .i64 x.kind) := cy 0
  have cy1 : w1.cell? ⟨X + 1, 1, none⟩ = some (.int .i64 x.src) := cy 1
  have cy2 : w1.cell? ⟨X + 1, 2, none⟩ = some (.int .i64 x.dst) := cy 2
  have cy3 : w1.cell? ⟨X + 1, 3, none⟩ = some (.int .i64 x.prio) := cy 3
  have cy4 : w1.cell? ⟨X + 1, 4, none⟩ = some (.int .u64 x.msg) := cy 4
  have cy5 : w1.cell? ⟨X + 1, 5, none⟩ = some (.int .i64 x.off) := cy 5
  have cy6 : w1.cell? ⟨X + 1, 6, none⟩ = some (.int .i64 x.len) := cy 6
  have cy7 : w1.cell? ⟨X + 1, 7, none⟩ = some (.int .i64 x.total) := cy 7
  have cy8 : w1.cell? ⟨X + 1, 8, none⟩ = some (.int .i64 x.num) := cy 8
  have cy9 : w1.cell? ⟨X + 1, 9, none⟩ = some (.slice x.da x.dn x.dc) := cy 9
  have cy10 : w1.cell? ⟨X + 1, 10, none⟩ = some (.int .i64 x.path) := cy 10
  clear cy
  have hms := msame x a c w1 HL.out (HYR.out.below HB.out) (HXR.out.below HB.out)
  replace hms : Calls Try.prog 44 #[.agg #[.int .i64 x.kind, .int .i64 x.src, .int .i64 x.dst, .int .i64 x.prio, .int .u64 x.msg, .int .i64 x.off, .int .i64 x.len, .int .i64 x.total, .int .i64 x.num, .slice a x.dn c], .agg #[.int .i64 x.kind, .int .i64 x.src, .int .i64 x.dst, .int .i64 x.prio, .int .u64 x.msg, .int .i64 x.off, .int .i64 x.len, .int .i64 x.total, .int .i64 x.num, .slice x.da x.dn x.dc]] w1 _ := hms
  go_wp2_with fail
  refine (hms).mono ?_
  rintro e w2 ⟨rfl, hb2⟩
  have OA2 := Lib.hid (OA.out.below hb2)
  have OB2 := Lib.hid (OB.out.below hb2)
  have B2 := Lib.hid (HB.out.trans (hb2.mono HB.out.size))
  clear hms hb2 lx cx fx ca0 ca1 ca2 ca3 ca4 ca5 ca6 ca7 ca8 ca9 ca10 ly fy cy0 cy1 cy2 cy3 cy4 cy5 cy6 cy7 cy8 cy9 cy10
  have lx := OA2.out.lt
  have ly := OB2.out.lt
  have da10 : w2.cell? ⟨X, 10, none⟩ = some (.int .i64 x.path) := (OA2.out.blk).2.1 10
  have db10 : w2.cell? ⟨X + 1, 10, none⟩ = some (.int .i64 x.path) := (OB2.out.blk).2.1 10
  go_wp2_with fail
  go_ret
  exact ⟨rfl, HX.out ▸ B2.out⟩
end Go.Proofs.Ythgkminjhpaakaa
