/- The document's fabric (chapter 15): Take. -/
import Derived.Test.YtoihhidoafgoaaaFaBD
namespace Go.Proofs.Ytoihhidoafgoaaa
open Go.RowKit

section
variable {m : Nat} {l : Ml} {s : Ms} {w w' : World} {N : Nat}
set_option maxRecDepth 100000 in
set_option maxHeartbeats 4000000 in
theorem mf_take_no0 (h : Mf m l s w) {k : Int} (hk : k < 0 ∨ (0 ≤ k ∧ (s.H : Int) ≤ k)) : Calls Try.prog 23 #[.pointer (some ⟨m, 0, none⟩), .int .i64 k] w (TakeNo w) := by
  have HF := Lib.hid h
  have hh := h.hs.h
  clear h
  rcases hk with hk | ⟨hk, hk2⟩
  · skip
    go_enter Try.func23, Try.ntmps23
    go_upto_region 1 with fail
    have OV := Lib.hid (Ob.new w #[.int .i64 0, .int .i64 0, .int .i64 0, .int .i64 0, .int .u64 0, .int .i64 0, .int .i64 0, .int .i64 0, .int .i64 0, .slice none 0 0] TFr)
    have HB := Lib.hid ((Below.refl w.heap.size w).alloc (Nat.le_refl _) (.cells #[.int .i64 0, .int .i64 0, .int .i64 0, .int .i64 0, .int .u64 0, .int .i64 0, .int .i64 0, .int .i64 0, .int .i64 0, .slice none 0 0] TFr))
    have F1 := Lib.hid (HF.out.below HB.out)
    generalize w.alloc (.cells #[.int .i64 0, .int .i64 0, .int .i64 0, .int .i64 0, .int .u64 0, .int .i64 0, .int .i64 0, .int .i64 0, .int .i64 0, .slice none 0 0] TFr) = w1 at *
    obtain ⟨X, HX⟩ : ∃ X, Hid (w.heap.size = X) := ⟨_, Lib.hid rfl⟩
    rw [HX.out] at OV ⊢
    obtain ⟨lx, cx, fx⟩ := OV.out.blk
    have cx0 : w1.cell? ⟨X, 0, none⟩ = some (.int .i64 0) := cx 0
    have cx1 : w1.cell? ⟨X, 1, none⟩ = some (.int .i64 0) := cx 1
    have cx2 : w1.cell? ⟨X, 2, none⟩ = some (.int .i64 0) := cx 2
    have cx3 : w1.cell? ⟨X, 3, none⟩ = some (.int .i64 0) := cx 3
    have cx4 : w1.cell? ⟨X, 4, none⟩ = some (.int .u64 0) := cx 4
    have cx5 : w1.cell? ⟨X, 5, none⟩ = some (.int .i64 0) := cx 5
    have cx6 : w1.cell? ⟨X, 6, none⟩ = some (.int .i64 0) := cx 6
    have cx7 : w1.cell? ⟨X, 7, none⟩ = some (.int .i64 0) := cx 7
    have cx8 : w1.cell? ⟨X, 8, none⟩ = some (.int .i64 0) := cx 8
    have cx9 : w1.cell? ⟨X, 9, none⟩ = some (.slice none 0 0) := cx 9
    clear cx
    obtain ⟨l0, c0, c1, c2, c3⟩ := F1.out.cells
    obtain ⟨n0, n1, n2, n3⟩ := F1.out.net.cells
    clear c1 c2 c3 n2 n3
    go_wp2_with fail
    have hw : ((((((((((w1.setCell ⟨X, 0, none⟩ (.int .i64 0)).setCell ⟨X, 1, none⟩ (.int .i64 0)).setCell ⟨X, 2, none⟩ (.int .i64 0)).setCell ⟨X, 3, none⟩ (.int .i64 0)).setCell ⟨X, 4, none⟩ (.int .u64 0)).setCell ⟨X, 5, none⟩ (.int .i64 0)).setCell ⟨X, 6, none⟩ (.int .i64 0)).setCell ⟨X, 7, none⟩ (.int .i64 0)).setCell ⟨X, 8, none⟩ (.int .i64 0)).setCell ⟨X, 9, none⟩ (.slice none 0 0)) = w1.setCells X 0 [.int .i64 0, .int .i64 0, .int .i64 0, .int .i64 0, .int .u64 0, .int .i64 0, .int .i64 0, .int .i64 0, .int .i64 0, .slice none 0 0] := rfl
    rw [hw]
    clear hw
    have OF := Lib.hid (OV.out.sets [.int .i64 0, .int .i64 0, .int .i64 0, .int .i64 0, .int .u64 0, .int .i64 0, .int .i64 0, .int .i64 0, .int .i64 0, .slice none 0 0] rfl)
    have HBF := Lib.hid (Below.sets HB.out (Nat.le_of_eq HX.out) HB.out.size [.int .i64 0, .int .i64 0, .int .i64 0, .int .i64 0, .int .u64 0, .int .i64 0, .int .i64 0, .int .i64 0, .int .i64 0, .slice none 0 0])
    generalize w1.setCells X 0 [.int .i64 0, .int .i64 0, .int .i64 0, .int .i64 0, .int .u64 0, .int .i64 0, .int .i64 0, .int .i64 0, .int .i64 0, .slice none 0 0] = F at *
    clear lx fx cx0 cx1 cx2 cx3 cx4 cx5 cx6 cx7 cx8 cx9
    obtain ⟨lf, cf, ff⟩ := OF.out.blk
    have cf0 : F.cell? ⟨X, 0, none⟩ = some (.int .i64 0) := cf 0
    have cf1 : F.cell? ⟨X, 1, none⟩ = some (.int .i64 0) := cf 1
    have cf2 : F.cell? ⟨X, 2, none⟩ = some (.int .i64 0) := cf 2
    have cf3 : F.cell? ⟨X, 3, none⟩ = some (.int .i64 0) := cf 3
    have cf4 : F.cell? ⟨X, 4, none⟩ = some (.int .u64 0) := cf 4
    have cf5 : F.cell? ⟨X, 5, none⟩ = some (.int .i64 0) := cf 5
    have cf6 : F.cell? ⟨X, 6, none⟩ = some (.int .i64 0) := cf 6
    have cf7 : F.cell? ⟨X, 7, none⟩ = some (.int .i64 0) := cf 7
    have cf8 : F.cell? ⟨X, 8, none⟩ = some (.int .i64 0) := cf 8
    have cf9 : F.cell? ⟨X, 9, none⟩ = some (.slice none 0 0) := cf 9
    clear cf
    refine done (.tuple #[noFr, .bool false]) rfl (by simp [noFr, results, Try.results23, go_sem, cf0, cf1, cf2, cf3, cf4, cf5, cf6, cf7, cf8, cf9]) ⟨rfl, HBF.out⟩
  · skip
    go_enter Try.func23, Try.ntmps23
    go_upto_region 1 with fail
    have OV := Lib.hid (Ob.new w #[.int .i64 0, .int .i64 0, .int .i64 0, .int .i64 0, .int .u64 0, .int .i64 0, .int .i64 0, .int .i64 0, .int .i64 0, .slice none 0 0] TFr)
    have HB := Lib.hid ((Below.refl w.heap.size w).alloc (Nat.le_refl _) (.cells #[.int .i64 0, .int .i64 0, .int .i64 0, .int .i64 0, .int .u64 0, .int .i64 0, .int .i64 0, .int .i64 0, .int .i64 0, .slice none 0 0] TFr))
    have F1 := Lib.hid (HF.out.below HB.out)
    generalize w.alloc (.cells #[.int .i64 0, .int .i64 0, .int .i64 0, .int .i64 0, .int .u64 0, .int .i64 0, .int .i64 0, .int .i64 0, .int .i64 0, .slice none 0 0] TFr) = w1 at *
    obtain ⟨X, HX⟩ : ∃ X, Hid (w.heap.size = X) := ⟨_, Lib.hid rfl⟩
    rw [HX.out] at OV ⊢
    obtain ⟨lx, cx, fx⟩ := OV.out.blk
    have cx0 : w1.cell? ⟨X, 0, none⟩ = some (.int .i64 0) := cx 0
    have cx1 : w1.cell? ⟨X, 1, none⟩ = some (.int .i64 0) := cx 1
    have cx2 : w1.cell? ⟨X, 2, none⟩ = some (.int .i64 0) := cx 2
    have cx3 : w1.cell? ⟨X, 3, none⟩ = some (.int .i64 0) := cx 3
    have cx4 : w1.cell? ⟨X, 4, none⟩ = some (.int .u64 0) := cx 4
    have cx5 : w1.cell? ⟨X, 5, none⟩ = some (.int .i64 0) := cx 5
    have cx6 : w1.cell? ⟨X, 6, none⟩ = some (.int .i64 0) := cx 6
    have cx7 : w1.cell? ⟨X, 7, none⟩ = some (.int .i64 0) := cx 7
    have cx8 : w1.cell? ⟨X, 8, none⟩ = some (.int .i64 0) := cx 8
    have cx9 : w1.cell? ⟨X, 9, none⟩ = some (.slice none 0 0) := cx 9
    clear cx
    obtain ⟨l0, c0, c1, c2, c3⟩ := F1.out.cells
    obtain ⟨n0, n1, n2, n3⟩ := F1.out.net.cells
    clear c1 c2 c3 n2 n3
    go_wp2_with fail
    have hw : ((((((((((w1.setCell ⟨X, 0, none⟩ (.int .i64 0)).setCell ⟨X, 1, none⟩ (.int .i64 0)).setCell ⟨X, 2, none⟩ (.int .i64 0)).setCell ⟨X, 3, none⟩ (.int .i64 0)).setCell ⟨X, 4, none⟩ (.int .u64 0)).setCell ⟨X, 5, none⟩ (.int .i64 0)).setCell ⟨X, 6, none⟩ (.int .i64 0)).setCell ⟨X, 7, none⟩ (.int .i64 0)).setCell ⟨X, 8, none⟩ (.int .i64 0)).setCell ⟨X, 9, none⟩ (.slice none 0 0)) = w1.setCells X 0 [.int .i64 0, .int .i64 0, .int .i64 0, .int .i64 0, .int .u64 0, .int .i64 0, .int .i64 0, .int .i64 0, .int .i64 0, .slice none 0 0] := rfl
    rw [hw]
    clear hw
    have OF := Lib.hid (OV.out.sets [.int .i64 0, .int .i64 0, .int .i64 0, .int .i64 0, .int .u64 0, .int .i64 0, .int .i64 0, .int .i64 0, .int .i64 0, .slice none 0 0] rfl)
    have HBF := Lib.hid (Below.sets HB.out (Nat.le_of_eq HX.out) HB.out.size [.int .i64 0, .int .i64 0, .int .i64 0, .int .i64 0, .int .u64 0, .int .i64 0, .int .i64 0, .int .i64 0, .int .i64 0, .slice none 0 0])
    generalize w1.setCells X 0 [.int .i64 0, .int .i64 0, .int .i64 0, .int .i64 0, .int .u64 0, .int .i64 0, .int .i64 0, .int .i64 0, .int .i64 0, .slice none 0 0] = F at *
    clear lx fx cx0 cx1 cx2 cx3 cx4 cx5 cx6 cx7 cx8 cx9
    obtain ⟨lf, cf, ff⟩ := OF.out.blk
    have cf0 : F.cell? ⟨X, 0, none⟩ = some (.int .i64 0) := cf 0
    have cf1 : F.cell? ⟨X, 1, none⟩ = some (.int .i64 0) := cf 1
    have cf2 : F.cell? ⟨X, 2, none⟩ = some (.int .i64 0) := cf 2
    have cf3 : F.cell? ⟨X, 3, none⟩ = some (.int .i64 0) := cf 3
    have cf4 : F.cell? ⟨X, 4, none⟩ = some (.int .u64 0) := cf 4
    have cf5 : F.cell? ⟨X, 5, none⟩ = some (.int .i64 0) := cf 5
    have cf6 : F.cell? ⟨X, 6, none⟩ = some (.int .i64 0) := cf 6
    have cf7 : F.cell? ⟨X, 7, none⟩ = some (.int .i64 0) := cf 7
    have cf8 : F.cell? ⟨X, 8, none⟩ = some (.int .i64 0) := cf 8
    have cf9 : F.cell? ⟨X, 9, none⟩ = some (.slice none 0 0) := cf 9
    clear cf
    refine done (.tuple #[noFr, .bool false]) rfl (by simp [noFr, results, Try.results23, go_sem, cf0, cf1, cf2, cf3, cf4, cf5, cf6, cf7, cf8, cf9]) ⟨rfl, HBF.out⟩
set_option maxRecDepth 100000 in
set_option maxHeartbeats 4000000 in
theorem mf_take_no1 (h : Mf m l s w) {k : Nat} (hk : k < s.H) (hA : s.A k = []) : Calls Try.prog 23 #[.pointer (some ⟨m, 0, none⟩), .int .i64 k] w (TakeNo w) := by
  have HF := Lib.hid h
  have hh := h.hs.h
  have HA := Lib.hid (show (s.A k).length = 0 by rw [hA]; rfl)
  clear h hA
  go_enter Try.func23, Try.ntmps23
  go_upto_region 1 with fail
  have OV := Lib.hid (Ob.new w #[.int .i64 0, .int .i64 0, .int .i64 0, .int .i64 0, .int .u64 0, .int .i64 0, .int .i64 0, .int .i64 0, .int .i64 0, .slice none 0 0] TFr)
  have HB := Lib.hid ((Below.refl w.heap.size w).alloc (Nat.le_refl _) (.cells #[.int .i64 0, .int .i64 0, .int .i64 0, .int .i64 0, .int .u64 0, .int .i64 0, .int .i64 0, .int .i64 0, .int .i64 0, .slice none 0 0] TFr))
  have F1 := Lib.hid (HF.out.below HB.out)
  generalize w.alloc (.cells #[.int .i64 0, .int .i64 0, .int .i64 0, .int .i64 0, .int .u64 0, .int .i64 0, .int .i64 0, .int .i64 0, .int .i64 0, .slice none 0 0] TFr) = w1 at *
  obtain ⟨X, HX⟩ : ∃ X, Hid (w.heap.size = X) := ⟨_, Lib.hid rfl⟩
  rw [HX.out] at OV ⊢
  obtain ⟨lx, cx, fx⟩ := OV.out.blk
  have cx0 : w1.cell? ⟨X, 0, none⟩ = some (.int .i64 0) := cx 0
  have cx1 : w1.cell? ⟨X, 1, none⟩ = some (.int .i64 0) := cx 1
  have cx2 : w1.cell? ⟨X, 2, none⟩ = some (.int .i64 0) := cx 2
  have cx3 : w1.cell? ⟨X, 3, none⟩ = some (.int .i64 0) := cx 3
  have cx4 : w1.cell? ⟨X, 4, none⟩ = some (.int .u64 0) := cx 4
  have cx5 : w1.cell? ⟨X, 5, none⟩ = some (.int .i64 0) := cx 5
  have cx6 : w1.cell? ⟨X, 6, none⟩ = some (.int .i64 0) := cx 6
  have cx7 : w1.cell? ⟨X, 7, none⟩ = some (.int .i64 0) := cx 7
  have cx8 : w1.cell? ⟨X, 8, none⟩ = some (.int .i64 0) := cx 8
  have cx9 : w1.cell? ⟨X, 9, none⟩ = some (.slice none 0 0) := cx 9
  clear cx
  obtain ⟨l0, c0, c1, c2, c3⟩ := F1.out.cells
  obtain ⟨n0, n1, n2, n3⟩ := F1.out.net.cells
  obtain ⟨la, ca, fa⟩ := F1.out.acell
  obtain ⟨av, cv, hv, hv1, hv2⟩ := (F1.out.rows k hk).form
  have cak := (ca k hk).trans (congrArg some hv)
  rw [HA.out] at cak
  clear ca c1 c3 n2 n3 hv
  go_wp2_with fail
  have hw : ((((((((((w1.setCell ⟨X, 0, none⟩ (.int .i64 0)).setCell ⟨X, 1, none⟩ (.int .i64 0)).setCell ⟨X, 2, none⟩ (.int .i64 0)).setCell ⟨X, 3, none⟩ (.int .i64 0)).setCell ⟨X, 4, none⟩ (.int .u64 0)).setCell ⟨X, 5, none⟩ (.int .i64 0)).setCell ⟨X, 6, none⟩ (.int .i64 0)).setCell ⟨X, 7, none⟩ (.int .i64 0)).setCell ⟨X, 8, none⟩ (.int .i64 0)).setCell ⟨X, 9, none⟩ (.slice none 0 0)) = w1.setCells X 0 [.int .i64 0, .int .i64 0, .int .i64 0, .int .i64 0, .int .u64 0, .int .i64 0, .int .i64 0, .int .i64 0, .int .i64 0, .slice none 0 0] := rfl
  rw [hw]
  clear hw
  have OF := Lib.hid (OV.out.sets [.int .i64 0, .int .i64 0, .int .i64 0, .int .i64 0, .int .u64 0, .int .i64 0, .int .i64 0, .int .i64 0, .int .i64 0, .slice none 0 0] rfl)
  have HBF := Lib.hid (Below.sets HB.out (Nat.le_of_eq HX.out) HB.out.size [.int .i64 0, .int .i64 0, .int .i64 0, .int .i64 0, .int .u64 0, .int .i64 0, .int .i64 0, .int .i64 0, .int .i64 0, .slice none 0 0])
  generalize w1.setCells X 0 [.int .i64 0, .int .i64 0, .int .i64 0, .int .i64 0, .int .u64 0, .int .i64 0, .int .i64 0, .int .i64 0, .int .i64 0, .slice none 0 0] = F at *
  clear lx fx cx0 cx1 cx2 cx3 cx4 cx5 cx6 cx7 cx8 cx9
  obtain ⟨lf, cf, ff⟩ := OF.out.blk
  have cf0 : F.cell? ⟨X, 0, none⟩ = some (.int .i64 0) := cf 0
  have cf1 : F.cell? ⟨X, 1, none⟩ = some (.int .i64 0) := cf 1
  have cf2 : F.cell? ⟨X, 2, none⟩ = some (.int .i64 0) := cf 2
  have cf3 : F.cell? ⟨X, 3, none⟩ = some (.int .i64 0) := cf 3
  have cf4 : F.cell? ⟨X, 4, none⟩ = some (.int .u64 0) := cf 4
  have cf5 : F.cell? ⟨X, 5, none⟩ = some (.int .i64 0) := cf 5
  have cf6 : F.cell? ⟨X, 6, none⟩ = some (.int .i64 0) := cf 6
  have cf7 : F.cell? ⟨X, 7, none⟩ = some (.int .i64 0) := cf 7
  have cf8 : F.cell? ⟨X, 8, none⟩ = some (.int .i64 0) := cf 8
  have cf9 : F.cell? ⟨X, 9, none⟩ = some (.slice none 0 0) := cf 9
  clear cf
  refine done (.tuple #[noFr, .bool false]) rfl (by simp [noFr, results, Try.results23, go_sem, cf0, cf1, cf2, cf3, cf4, cf5, cf6, cf7, cf8, cf9]) ⟨rfl, HBF.out⟩

def MTakeYes (m : Nat) (l : Ml) (s : Ms) (k : Nat) (x : It) (r : List It) (w : World) (e : Ending) (w' : World) : Prop := e = .returned (.tuple #[x.frv, .bool true]) ∧ MfPost m l s { s with A := upd s.A k r } w w'
set_option maxRecDepth 100000 in
set_option maxHeartbeats 4000000 in
theorem mf_take_yes (h : Mf m l s w) {k : Nat} {x : It} {r : List It} (hk : k < s.H) (hA : s.A k = x :: r) : Calls Try.prog 23 #[.pointer (some ⟨m, 0, none⟩), .int .i64 k] w (MTakeYes m l s k x r w) := by
  have HF := Lib.hid h
  have hh := h.hs.h
  have HA := Lib.hid hA
  have HLR := Lib.hid (show (s.A k).length = r.length + 1 by rw [hA]; rfl)
  clear h hA
  go_enter Try.func23, Try.ntmps23
  go_upto_region 1 with fail
  have OV := Lib.hid (Ob.new w #[.int .i64 0, .int .i64 0, .int .i64 0, .int .i64 0, .int .u64 0, .int .i64 0, .int .i64 0, .int .i64 0, .int .i64 0, .slice none 0 0] TFr)
  have HB := Lib.hid ((Below.refl w.heap.size w).alloc (Nat.le_refl _) (.cells #[.int .i64 0, .int .i64 0, .int .i64 0, .int .i64 0, .int .u64 0, .int .i64 0, .int .i64 0, .int .i64 0, .int .i64 0, .slice none 0 0] TFr))
  have F1 := Lib.hid (HF.out.below HB.out)
  generalize w.alloc (.cells #[.int .i64 0, .int .i64 0, .int .i64 0, .int .i64 0, .int .u64 0, .int .i64 0, .int .i64 0, .int .i64 0, .int .i64 0, .slice none 0 0] TFr) = w1 at *
  obtain ⟨X, HX⟩ : ∃ X, Hid (w.heap.size = X) := ⟨_, Lib.hid rfl⟩
  rw [HX.out] at OV ⊢
  obtain ⟨lx, cx, fx⟩ := OV.out.blk
  have cx0 : w1.cell? ⟨X, 0, none⟩ = some (.int .i64 0) := cx 0
  have cx1 : w1.cell? ⟨X, 1, none⟩ = some (.int .i64 0) := cx 1
  have cx2 : w1.cell? ⟨X, 2, none⟩ = some (.int .i64 0) := cx 2
  have cx3 : w1.cell? ⟨X, 3, none⟩ = some (.int .i64 0) := cx 3
  have cx4 : w1.cell? ⟨X, 4, none⟩ = some (.int .u64 0) := cx 4
  have cx5 : w1.cell? ⟨X, 5, none⟩ = some (.int .i64 0) := cx 5
  have cx6 : w1.cell? ⟨X, 6, none⟩ = some (.int .i64 0) := cx 6
  have cx7 : w1.cell? ⟨X, 7, none⟩ = some (.int .i64 0) := cx 7
  have cx8 : w1.cell? ⟨X, 8, none⟩ = some (.int .i64 0) := cx 8
  have cx9 : w1.cell? ⟨X, 9, none⟩ = some (.slice none 0 0) := cx 9
  clear cx
  obtain ⟨l0, c0, c1, c2, c3⟩ := F1.out.cells
  obtain ⟨n0, n1, n2, n3⟩ := F1.out.net.cells
  obtain ⟨la, ca, fa⟩ := F1.out.acell
  have hrow := F1.out.rows k hk
  obtain ⟨av, cv, hv, hv1, hv2⟩ := hrow.form
  rw [hv, HLR.out, HA.out] at hrow
  have HVK0 := Lib.hid hv
  obtain ⟨g, o, cap, hv3, _, _, hgw, hgc⟩ := hrow.rd.some (by simp) (by decide)
  injection hv3 with hv4 hv5 hv6
  subst hv4
  subst hv6
  clear hv5
  have cak := (ca k hk).trans (congrArg some hv)
  rw [HLR.out] at cak hv1
  have hv1 : r.length + 1 ≤ cv := hv1
  have hr0 : ((r.length : Int) + 1 == 0) = false := beq_false_of_ne (by omega)
  have g0 : ∀ j u, (x.fro)[j]? = some u → w1.cell? ⟨g, o + j, none⟩ = some u := fun j u hj => hgc j u (by
    rw [List.flatMap_cons]
    exact getElem?_app hj)
  have cg0 : w1.cell? ⟨g, o, none⟩ = _ := g0 0 _ rfl
  have cg1 := g0 1 _ rfl
  have cg2 := g0 2 _ rfl
  have cg3 := g0 3 _ rfl
  have cg4 := g0 4 _ rfl
  have cg5 := g0 5 _ rfl
  have cg6 := g0 6 _ rfl
  have cg7 := g0 7 _ rfl
  have cg8 := g0 8 _ rfl
  have cg9 := g0 9 _ rfl
  have HRT := Lib.hid hrow.tail
  clear ca c1 c3 hv g0 hgc hrow
  go_upto_region 4 with fail
  have OI : Hid (Ob (w1.alloc (.cells #[.int .i64 x.kind, .int .i64 x.src, .int .i64 x.dst, .int .i64 x.prio, .int .u64 x.msg, .int .i64 x.off, .int .i64 x.len, .int .i64 x.total, .int .i64 x.num, .slice x.da x.dn x.dc] TFr)) w1.heap.size #[.int .i64 x.kind, .int .i64 x.src, .int .i64 x.dst, .int .i64 x.prio, .int .u64 x.msg, .int .i64 x.off, .int .i64 x.len, .int .i64 x.total, .int .i64 x.num, .slice x.da x.dn x.dc] TFr) := Lib.hid (Ob.new _ _ _)
  have KA : Hid (Kept (fun _ => False) w1 (w1.alloc (.cells #[.int .i64 x.kind, .int .i64 x.src, .int .i64 x.dst, .int .i64 x.prio, .int .u64 x.msg, .int .i64 x.off, .int .i64 x.len, .int .i64 x.total, .int .i64 x.num, .slice x.da x.dn x.dc] TFr))) := Lib.hid ((Kept.refl _ _).alloc _)
  have F2 := Lib.hid (F1.out.keptF KA.out)
  have OV2 := Lib.hid (OV.out.kept KA.out (fun h => h))
  have RT2 := Lib.hid (HRT.out.kept KA.out (fun _ _ _ _ h => h))
  have hXZ : X ≠ w1.heap.size := fun hh => by have := OV.out.lt; omega
  clear l0 c0 c2 la fa cak cg0 cg1 cg2 cg3 cg4 cg5 cg6 cg7 cg8 cg9 lx fx cx0 cx1 cx2 cx3 cx4 cx5 cx6 cx7 cx8 cx9 n0 n1 n2 n3 hgw
  obtain ⟨Z, HZ⟩ : ∃ Z, Hid (w1.heap.size = Z) := ⟨_, Lib.hid rfl⟩
  rw [HZ.out] at OI hXZ ⊢
  generalize w1.alloc (.cells #[.int .i64 x.kind, .int .i64 x.src, .int .i64 x.dst, .int .i64 x.prio, .int .u64 x.msg, .int .i64 x.off, .int .i64 x.len, .int .i64 x.total, .int .i64 x.num, .slice x.da x.dn x.dc] TFr) = w2 at *
  obtain ⟨l0, c0, c1, c2, c3⟩ := F2.out.cells
  obtain ⟨la, ca, fa⟩ := F2.out.acell
  have hvk : l.V k = .slice (some ⟨g, o, none⟩) (r.length + 1) cv := by
    rw [HVK0.out, HLR.out]
  have cak := (ca k hk).trans (congrArg some hvk)
  clear ca c0 c1 c3
  obtain ⟨i0, hi0, hz0, hs0, hb0⟩ := info_parts info_fr
  have hsl := fun w => run_slFrom (w := w) (P := Try.prog) Try.underlying63 hi0 (some ⟨g, o, none⟩) (r.length + 1) cv .i64 1 (by omega)
  rw [hs0] at hsl
  refine wp_heads (M := (fun _ => False)) 14 (by kernel_rfl) (by kernel_rfl) ?_
  refine hd_quiet [true, true, true, true, true, true, true, true, true, true, true, true, true, true, false] (by kernel_rfl) ?_
  simp only [pickAt]
  repeat (go_big_quiet_step (fail))
  refine wpQuiet_nil ?_
  refine hd_tail rfl (by kernel_rfl) ?_
  simp only [List.drop_succ_cons, List.drop_zero]
  go_wp2
  refine NoPanic.normal ?_
  have hTag : ∀ a n c, Value.slice (slAddr (some ⟨g, o, none⟩) cv 1 10) r.length (cv - 1) = .slice (some a) n c → a.block ≠ l.ib := fun a n c hv hh => absurd (((RT2.out.ty a n c hv).one (by rw [hh]; exact F2.out.inb.ty))) (by decide)
  obtain ⟨R6a, R6b⟩ := F2.out.row hk RT2.out hTag
  have hXa : X ≠ l.ib := fun hh => absurd (Ty.one (hh ▸ OV2.out.ty) F2.out.inb.ty) (by decide)
  have hZa : Z ≠ l.ib := fun hh => absurd (Ty.one (hh ▸ OI.out.ty) F2.out.inb.ty) (by decide)
  have OV7 := Lib.hid ((OV2.out.other ⟨l.ib, k, none⟩ (.slice (slAddr (some ⟨g, o, none⟩) cv 1 10) r.length (cv - 1)) hXa).kept (Kept.drew (fun _ => False) _) (fun h => h))
  have OI7 := Lib.hid ((OI.out.other ⟨l.ib, k, none⟩ (.slice (slAddr (some ⟨g, o, none⟩) cv 1 10) r.length (cv - 1)) hZa).kept (Kept.drew (fun _ => False) _) (fun h => h))
  have F7 := Lib.hid (R6a.keptF (Kept.drew _ _))
  have K7 := Lib.hid (R6b.trans (Kept.drew _ _))
  have RR := Lib.hid RT2.out.ty
  have I2 := Lib.hid F2.out.inb.lt
  clear R6a R6b l0 c2 la fa cak hsl hTag hXa hZa
  generalize (w2.setCell ⟨l.ib, k, none⟩ (.slice (slAddr (some ⟨g, o, none⟩) cv 1 10) r.length (cv - 1))).drew = w7 at *
  obtain ⟨lz, cz, fz⟩ := OI7.out.blk
  have cz0 : w7.cell? ⟨Z, 0, none⟩ = some (.int .i64 x.kind) := cz 0
  have cz1 : w7.cell? ⟨Z, 1, none⟩ = some (.int .i64 x.src) := cz 1
  have cz2 : w7.cell? ⟨Z, 2, none⟩ = some (.int .i64 x.dst) := cz 2
  have cz3 : w7.cell? ⟨Z, 3, none⟩ = some (.int .i64 x.prio) := cz 3
  have cz4 : w7.cell? ⟨Z, 4, none⟩ = some (.int .u64 x.msg) := cz 4
  have cz5 : w7.cell? ⟨Z, 5, none⟩ = some (.int .i64 x.off) := cz 5
  have cz6 : w7.cell? ⟨Z, 6, none⟩ = some (.int .i64 x.len) := cz 6
  have cz7 : w7.cell? ⟨Z, 7, none⟩ = some (.int .i64 x.total) := cz 7
  have cz8 : w7.cell? ⟨Z, 8, none⟩ = some (.int .i64 x.num) := cz 8
  have cz9 : w7.cell? ⟨Z, 9, none⟩ = some (.slice x.da x.dn x.dc) := cz 9
  clear cz
  obtain ⟨lx, cx, fx⟩ := OV7.out.blk
  have cx0 : w7.cell? ⟨X, 0, none⟩ = some (.int .i64 0) := cx 0
  have cx1 : w7.cell? ⟨X, 1, none⟩ = some (.int .i64 0) := cx 1
  have cx2 : w7.cell? ⟨X, 2, none⟩ = some (.int .i64 0) := cx 2
  have cx3 : w7.cell? ⟨X, 3, none⟩ = some (.int .i64 0) := cx 3
  have cx4 : w7.cell? ⟨X, 4, none⟩ = some (.int .u64 0) := cx 4
  have cx5 : w7.cell? ⟨X, 5, none⟩ = some (.int .i64 0) := cx 5
  have cx6 : w7.cell? ⟨X, 6, none⟩ = some (.int .i64 0) := cx 6
  have cx7 : w7.cell? ⟨X, 7, none⟩ = some (.int .i64 0) := cx 7
  have cx8 : w7.cell? ⟨X, 8, none⟩ = some (.int .i64 0) := cx 8
  have cx9 : w7.cell? ⟨X, 9, none⟩ = some (.slice none 0 0) := cx 9
  clear cx
  go_wp2_with fail
  have hw : ((((((((((w7.setCell ⟨X, 0, none⟩ (.int .i64 x.kind)).setCell ⟨X, 1, none⟩ (.int .i64 x.src)).setCell ⟨X, 2, none⟩ (.int .i64 x.dst)).setCell ⟨X, 3, none⟩ (.int .i64 x.prio)).setCell ⟨X, 4, none⟩ (.int .u64 x.msg)).setCell ⟨X, 5, none⟩ (.int .i64 x.off)).setCell ⟨X, 6, none⟩ (.int .i64 x.len)).setCell ⟨X, 7, none⟩ (.int .i64 x.total)).setCell ⟨X, 8, none⟩ (.int .i64 x.num)).setCell ⟨X, 9, none⟩ (.slice x.da x.dn x.dc)) = w7.setCells X 0 [.int .i64 x.kind, .int .i64 x.src, .int .i64 x.dst, .int .i64 x.prio, .int .u64 x.msg, .int .i64 x.off, .int .i64 x.len, .int .i64 x.total, .int .i64 x.num, .slice x.da x.dn x.dc] := rfl
  rw [hw]
  clear hw cx0 cx1 cx2 cx3 cx4 cx5 cx6 cx7 cx8 cx9 cz0 cz1 cz2 cz3 cz4 cz5 cz6 cz7 cz8 cz9 lz fz lx fx
  have OF := Lib.hid (OV7.out.sets [.int .i64 x.kind, .int .i64 x.src, .int .i64 x.dst, .int .i64 x.prio, .int .u64 x.msg, .int .i64 x.off, .int .i64 x.len, .int .i64 x.total, .int .i64 x.num, .slice x.da x.dn x.dc] rfl)
  have hG : ∀ z, RM { l with V := upd l.V k (.slice (slAddr (some ⟨g, o, none⟩) cv 1 10) r.length (cv - 1)) } { s with A := upd s.A k r } z → RM l s z := fun z hz => by
    rcases hz with hz | hz | ⟨j, hj, a, n, c, hv, ha⟩
    · exact .inl hz
    · exact .inr (.inl hz)
    · by_cases e : j = k
      · subst e
        have hv : upd l.V j (Value.slice (slAddr (some ⟨g, o, none⟩) cv 1 10) r.length (cv - 1)) j = .slice (some a) n c := hv
        rw [upd_same] at hv
        injection hv with h2 _ _
        obtain ⟨a0, h3, h4⟩ := slAddr_blk h2
        injection h3 with h3
        exact .inr (.inr ⟨j, hj, ⟨g, o, none⟩, _, _, HVK0.out, by rw [← ha, ← h4, ← h3]⟩)
      · have hv : upd l.V k (Value.slice (slAddr (some ⟨g, o, none⟩) cv 1 10) r.length (cv - 1)) j = .slice (some a) n c := hv
        rw [upd_other _ _ e] at hv
        exact .inr (.inr ⟨j, hj, a, n, c, hv, ha⟩)
  have KF : Hid (Kept (Only X) w7 (w7.setCells X 0 [.int .i64 x.kind, .int .i64 x.src, .int .i64 x.dst, .int .i64 x.prio, .int .u64 x.msg, .int .i64 x.off, .int .i64 x.len, .int .i64 x.total, .int .i64 x.num, .slice x.da x.dn x.dc])) := Lib.hid ((Kept.refl (Only X) w7).setsO (X := X) (show X = X from rfl) _)
  have PF := Lib.hid (F7.out.kept KF.out (fun y hy hh => by
    have h1 := HF.out.rlt (hG y hy)
    have h2 := HX.out
    have h3 : y = X := hh
    omega) fun y hy _ => ⟨TFr, by rw [show y = X from hy]; exact OV7.out.ty, by unfold MTy; decide⟩)
  have hs2 : w.heap.size ≤ w2.heap.size := Nat.le_trans HB.out.size KA.out.size
  have K07 := ((Kept.of_below (M := MM m l s) HB.out).trans (KA.out.mono fun y _ hy => hy.elim)).trans (K7.out.mono fun y _ hy => .inr (.inl hy))
  have KW := Lib.hid (K07.setsN (X := X) (Nat.le_of_eq HX.out) [.int .i64 x.kind, .int .i64 x.src, .int .i64 x.dst, .int .i64 x.prio, .int .u64 x.msg, .int .i64 x.off, .int .i64 x.len, .int .i64 x.total, .int .i64 x.num, .slice x.da x.dn x.dc])
  clear K07
  generalize w7.setCells X 0 [.int .i64 x.kind, .int .i64 x.src, .int .i64 x.dst, .int .i64 x.prio, .int .u64 x.msg, .int .i64 x.off, .int .i64 x.len, .int .i64 x.total, .int .i64 x.num, .slice x.da x.dn x.dc] = F at *
  obtain ⟨lf, cf, ff⟩ := OF.out.blk
  have cf0 : F.cell? ⟨X, 0, none⟩ = some (.int .i64 x.kind) := cf 0
  have cf1 : F.cell? ⟨X, 1, none⟩ = some (.int .i64 x.src) := cf 1
  have cf2 : F.cell? ⟨X, 2, none⟩ = some (.int .i64 x.dst) := cf 2
  have cf3 : F.cell? ⟨X, 3, none⟩ = some (.int .i64 x.prio) := cf 3
  have cf4 : F.cell? ⟨X, 4, none⟩ = some (.int .u64 x.msg) := cf 4
  have cf5 : F.cell? ⟨X, 5, none⟩ = some (.int .i64 x.off) := cf 5
  have cf6 : F.cell? ⟨X, 6, none⟩ = some (.int .i64 x.len) := cf 6
  have cf7 : F.cell? ⟨X, 7, none⟩ = some (.int .i64 x.total) := cf 7
  have cf8 : F.cell? ⟨X, 8, none⟩ = some (.int .i64 x.num) := cf 8
  have cf9 : F.cell? ⟨X, 9, none⟩ = some (.slice x.da x.dn x.dc) := cf 9
  clear cf
  refine done (.tuple #[x.frv, .bool true]) rfl (by simp [It.frv, results, Try.results23, go_sem, cf0, cf1, cf2, cf3, cf4, cf5, cf6, cf7, cf8, cf9]) ⟨rfl, _, PF.out, KW.out, fun z hz => .inl (hG z hz)⟩
end
end Go.Proofs.Ytoihhidoafgoaaa
