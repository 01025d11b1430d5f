/- A port (chapter 13): what waits there; in memory of its own. -/
import Derived.Test.YtoihhidoafgoaaaReSl
import Derived.Test.YtoihhidoafgoaaaTail
import Derived.Test.YtoihhidoafgoaaaSets
import Derived.Test.YtoihhidoafgoaaaNum
import Derived.Deep.CutBlock
namespace Go.Proofs.Ytoihhidoafgoaaa
open Go.RowKit

abbrev TU : TypeId := 5
abbrev TFr : TypeId := 34
abbrev TIt : TypeId := 81
structure It where
  kind : Int
  src : Int
  dst : Int
  prio : Int
  msg : Int
  off : Int
  len : Int
  total : Int
  num : Int
  da : Option Addr
  dn : Nat
  dc : Nat
  path : Int
  bs : List UInt8
def It.frv (x : It) : Value := .agg #[.int .i64 x.kind, .int .i64 x.src, .int .i64 x.dst, .int .i64 x.prio, .int .u64 x.msg, .int .i64 x.off, .int .i64 x.len, .int .i64 x.total, .int .i64 x.num, .slice x.da x.dn x.dc]
def It.val (x : It) : Value := .agg #[.int .i64 x.kind, .int .i64 x.src, .int .i64 x.dst, .int .i64 x.prio, .int .u64 x.msg, .int .i64 x.off, .int .i64 x.len, .int .i64 x.total, .int .i64 x.num, .slice x.da x.dn x.dc, .int .i64 x.path]
def It.row (x : It) : List Value := [.int .i64 x.kind, .int .i64 x.src, .int .i64 x.dst, .int .i64 x.prio, .int .u64 x.msg, .int .i64 x.off, .int .i64 x.len, .int .i64 x.total, .int .i64 x.num, .slice x.da x.dn x.dc, .int .i64 x.path]
theorem rowIt (x : It) : x.row.length = 11 := rfl
def It.data (x : It) (a : Option Addr) (c : Nat) : It := { x with da := a, dc := c }
theorem own_baseP {w : World} {B B' : Nat} {e : TypeId} {k : Nat} {v : Value} {n : Nat} {xs : List Value} (h : w.ownsRow B e k v n xs) (hB : B' ≤ B) : w.ownsRow B' e k v n xs := by
  refine ⟨h.1, ?_⟩
  rcases h.2 with h2 | ⟨g, cap, cur, hv, hg, r⟩
  · exact .inl h2
  · exact .inr ⟨g, cap, cur, hv, Nat.le_trans hB hg, r⟩
set_option maxRecDepth 100000 in
set_option maxHeartbeats 4000000 in
theorem wown (x : It) (l : List UInt8) (w : World) (h : Rd w 1 (.slice x.da x.dn x.dc) x.dn (bcells l)) (hl : x.dn ≤ 1073741824) :
    Calls Try.prog 60 #[x.frv] w fun e w' => ∃ a c, e = .returned (x.data a c).frv ∧ w'.ownsRow w.heap.size TU 1 (.slice a x.dn c) x.dn (bcells l) ∧ Below w.heap.size w w' := by
  unfold It.frv
  have HR := Lib.hid h
  clear h
  go_enter Try.func60, Try.ntmps60
  go_upto_region 1 with fail
  have OX := Lib.hid ((Ob.new w #[.int .i64 x.kind, .int .i64 x.src, .int .i64 x.dst, .int .i64 x.prio, .int .u64 x.msg, .int .i64 x.off, .int .i64 x.len, .int .i64 x.total, .int .i64 x.num, .slice x.da x.dn x.dc] TFr).alloc (.cells #[.int .i64 0, .int .i64 0, .int .i64 0, .int .i64 0, .int .u64 0, .int .i64 0, .int .i64 0, .int .i64 0, .int .i64 0, .slice none 0 0] TFr))
  have OY := Lib.hid (Ob.new (w.alloc (.cells #[.int .i64 x.kind, .int .i64 x.src, .int .i64 x.dst, .int .i64 x.prio, .int .u64 x.msg, .int .i64 x.off, .int .i64 x.len, .int .i64 x.total, .int .i64 x.num, .slice x.da x.dn x.dc] TFr)) #[.int .i64 0, .int .i64 0, .int .i64 0, .int .i64 0, .int .u64 0, .int .i64 0, .int .i64 0, .int .i64 0, .int .i64 0, .slice none 0 0] TFr)
  have HB := Lib.hid (((Below.refl w.heap.size w).alloc (Nat.le_refl _) (.cells #[.int .i64 x.kind, .int .i64 x.src, .int .i64 x.dst, .int .i64 x.prio, .int .u64 x.msg, .int .i64 x.off, .int .i64 x.len, .int .i64 x.total, .int .i64 x.num, .slice x.da x.dn x.dc] TFr)).alloc (by rw [World.size_alloc]; omega) (.cells #[.int .i64 0, .int .i64 0, .int .i64 0, .int .i64 0, .int .u64 0, .int .i64 0, .int .i64 0, .int .i64 0, .int .i64 0, .slice none 0 0] TFr))
  rw [World.size_alloc] at OY
  generalize (w.alloc (.cells #[.int .i64 x.kind, .int .i64 x.src, .int .i64 x.dst, .int .i64 x.prio, .int .u64 x.msg, .int .i64 x.off, .int .i64 x.len, .int .i64 x.total, .int .i64 x.num, .slice x.da x.dn x.dc] TFr)).alloc (.cells #[.int .i64 0, .int .i64 0, .int .i64 0, .int .i64 0, .int .u64 0, .int .i64 0, .int .i64 0, .int .i64 0, .int .i64 0, .slice none 0 0] TFr) = w1 at *
  obtain ⟨X, HX⟩ : ∃ X, Hid (w.heap.size = X) := ⟨_, Lib.hid rfl⟩
  rw [HX.out] at OX OY ⊢
  obtain ⟨lx, cx, fx⟩ := OX.out.blk
  have cx0 : w1.cell? ⟨X, 0, none⟩ = some (.int .i64 x.kind) := cx 0
  have cx1 : w1.cell? ⟨X, 1, none⟩ = some (.int .i64 x.src) := cx 1
  have cx2 : w1.cell? ⟨X, 2, none⟩ = some (.int .i64 x.dst) := cx 2
  have cx3 : w1.cell? ⟨X, 3, none⟩ = some (.int .i64 x.prio) := cx 3
  have cx4 : w1.cell? ⟨X, 4, none⟩ = some (.int .u64 x.msg) := cx 4
  have cx5 : w1.cell? ⟨X, 5, none⟩ = some (.int .i64 x.off) := cx 5
  have cx6 : w1.cell? ⟨X, 6, none⟩ = some (.int .i64 x.len) := cx 6
  have cx7 : w1.cell? ⟨X, 7, none⟩ = some (.int .i64 x.total) := cx 7
  have cx8 : w1.cell? ⟨X, 8, none⟩ = some (.int .i64 x.num) := cx 8
  have cx9 : w1.cell? ⟨X, 9, none⟩ = some (.slice x.da x.dn x.dc) := cx 9
  clear cx
  go_wp2_with fail
  refine (clone_u8 _ _ _ _ (HR.out.below HB.out) (bcells_one l) (by omega)).mono ?_
  rintro e w2 ⟨v2, rfl, ho2, hb2⟩
  have OX2 := Lib.hid (OX.out.below hb2)
  have OY2 := Lib.hid (OY.out.below hb2)
  have HB2 := Lib.hid (HB.out.trans (hb2.mono HB.out.size))
  obtain ⟨a2, c2, hv2⟩ : ∃ a2 c2, v2 = .slice a2 x.dn c2 := by
    obtain ⟨a, c, h, _⟩ := (Rd.of_own ho2).form
    exact ⟨a, c, h⟩
  subst hv2
  have HNE := Lib.hid (fun y hy => (ho2.lt y hy).1)
  have HO2 := Lib.hid (own_baseP (B' := w.heap.size) ho2 HB.out.size)
  clear hb2 ho2 fx lx cx0 cx1 cx2 cx3 cx4 cx5 cx6 cx7 cx8 cx9
  obtain ⟨lx, cx, fx⟩ := OX2.out.blk
  have cx0 : w2.cell? ⟨X, 0, none⟩ = some (.int .i64 x.kind) := cx 0
  have cx1 : w2.cell? ⟨X, 1, none⟩ = some (.int .i64 x.src) := cx 1
  have cx2 : w2.cell? ⟨X, 2, none⟩ = some (.int .i64 x.dst) := cx 2
  have cx3 : w2.cell? ⟨X, 3, none⟩ = some (.int .i64 x.prio) := cx 3
  have cx4 : w2.cell? ⟨X, 4, none⟩ = some (.int .u64 x.msg) := cx 4
  have cx5 : w2.cell? ⟨X, 5, none⟩ = some (.int .i64 x.off) := cx 5
  have cx6 : w2.cell? ⟨X, 6, none⟩ = some (.int .i64 x.len) := cx 6
  have cx7 : w2.cell? ⟨X, 7, none⟩ = some (.int .i64 x.total) := cx 7
  have cx8 : w2.cell? ⟨X, 8, none⟩ = some (.int .i64 x.num) := cx 8
  have cx9 : w2.cell? ⟨X, 9, none⟩ = some (.slice x.da x.dn x.dc) := cx 9
  clear cx
  obtain ⟨ly, cy, fy⟩ := OY2.out.blk
  have cy0 : w2.cell? ⟨X + 1, 0, none⟩ = some (.int .i64 0) := cy 0
  have cy1 : w2.cell? ⟨X + 1, 1, none⟩ = some (.int .i64 0) := cy 1
  have cy2 : w2.cell? ⟨X + 1, 2, none⟩ = some (.int .i64 0) := cy 2
  have cy3 : w2.cell? ⟨X + 1, 3, none⟩ = some (.int .i64 0) := cy 3
  have cy4 : w2.cell? ⟨X + 1, 4, none⟩ = some (.int .u64 0) := cy 4
  have cy5 : w2.cell? ⟨X + 1, 5, none⟩ = some (.int .i64 0) := cy 5
  have cy6 : w2.cell? ⟨X + 1, 6, none⟩ = some (.int .i64 0) := cy 6
  have cy7 : w2.cell? ⟨X + 1, 7, none⟩ = some (.int .i64 0) := cy 7
  have cy8 : w2.cell? ⟨X + 1, 8, none⟩ = some (.int .i64 0) := cy 8
  have cy9 : w2.cell? ⟨X + 1, 9, none⟩ = some (.slice none 0 0) := cy 9
  clear cy
  have hX0 : w.heap.size ≤ X := by rw [HX.out]; exact Nat.le_refl _
  have hX1 : w.heap.size ≤ X + 1 := by omega
  go_wp2_with fail
  have hK1 : Kept (fun y => y = X ∨ y = X + 1) w2 (w2.setCell ⟨X, 9, none⟩ (.slice a2 x.dn c2)) := (Kept.refl _ w2).set ⟨X, 9, none⟩ _ (fun _ => .inl rfl)
  have hB1 := HB2.out.setCell (p := ⟨X, 9, none⟩) hX0 (.slice a2 x.dn c2)
  have hO1 := OY2.out.other ⟨X, 9, none⟩ (.slice a2 x.dn c2) (by show X + 1 ≠ X; omega)
  have hsz : w.heap.size ≤ w2.heap.size := HB2.out.size
  have hw : (((((((((((w2.setCell ⟨X, 9, none⟩ (.slice a2 x.dn c2)).setCell ⟨X + 1, 0, none⟩ (.int .i64 x.kind)).setCell ⟨X + 1, 1, none⟩ (.int .i64 x.src)).setCell ⟨X + 1, 2, none⟩ (.int .i64 x.dst)).setCell ⟨X + 1, 3, none⟩ (.int .i64 x.prio)).setCell ⟨X + 1, 4, none⟩ (.int .u64 x.msg)).setCell ⟨X + 1, 5, none⟩ (.int .i64 x.off)).setCell ⟨X + 1, 6, none⟩ (.int .i64 x.len)).setCell ⟨X + 1, 7, none⟩ (.int .i64 x.total)).setCell ⟨X + 1, 8, none⟩ (.int .i64 x.num)).setCell ⟨X + 1, 9, none⟩ (.slice a2 x.dn c2)) = (w2.setCell ⟨X, 9, none⟩ (.slice a2 x.dn c2)).setCells (X + 1) 0 [.int .i64 x.kind, .int .i64 x.src, .int .i64 x.dst, .int .i64 x.prio, .int .u64 x.msg, .int .i64 x.off, .int .i64 x.len, .int .i64 x.total, .int .i64 x.num, .slice a2 x.dn c2] := rfl
  rw [hw]
  clear hw
  generalize (w2.setCell ⟨X, 9, none⟩ (.slice a2 x.dn c2)) = w21 at *
  have hs21 : w2.heap.size ≤ w21.heap.size := hK1.size
  have HK3 := Lib.hid (hK1.setsO (X := X + 1) (.inr rfl) [.int .i64 x.kind, .int .i64 x.src, .int .i64 x.dst, .int .i64 x.prio, .int .u64 x.msg, .int .i64 x.off, .int .i64 x.len, .int .i64 x.total, .int .i64 x.num, .slice a2 x.dn c2])
  have HB3 := Lib.hid (Below.sets hB1 hX1 (by omega) [.int .i64 x.kind, .int .i64 x.src, .int .i64 x.dst, .int .i64 x.prio, .int .u64 x.msg, .int .i64 x.off, .int .i64 x.len, .int .i64 x.total, .int .i64 x.num, .slice a2 x.dn c2])
  have OY3 := Lib.hid (hO1.sets [.int .i64 x.kind, .int .i64 x.src, .int .i64 x.dst, .int .i64 x.prio, .int .u64 x.msg, .int .i64 x.off, .int .i64 x.len, .int .i64 x.total, .int .i64 x.num, .slice a2 x.dn c2] rfl)
  have hs1 : X + 1 < w1.heap.size := OY.out.lt
  have HO3 := Lib.hid (own_kept HO2.out HK3.out (fun y hy hh => by
    have := HNE.out y hy
    rcases hh with rfl | rfl <;> omega))
  clear HK3 hK1 hB1 hO1
  generalize w21.setCells (X + 1) 0 [.int .i64 x.kind, .int .i64 x.src, .int .i64 x.dst, .int .i64 x.prio, .int .u64 x.msg, .int .i64 x.off, .int .i64 x.len, .int .i64 x.total, .int .i64 x.num, .slice a2 x.dn c2] = w3 at *
  obtain ⟨lz, cz, fz⟩ := OY3.out.blk
  have cz0 : w3.cell? ⟨X + 1, 0, none⟩ = some (.int .i64 x.kind) := cz 0
  have cz1 : w3.cell? ⟨X + 1, 1, none⟩ = some (.int .i64 x.src) := cz 1
  have cz2 : w3.cell? ⟨X + 1, 2, none⟩ = some (.int .i64 x.dst) := cz 2
  have cz3 : w3.cell? ⟨X + 1, 3, none⟩ = some (.int .i64 x.prio) := cz 3
  have cz4 : w3.cell? ⟨X + 1, 4, none⟩ = some (.int .u64 x.msg) := cz 4
  have cz5 : w3.cell? ⟨X + 1, 5, none⟩ = some (.int .i64 x.off) := cz 5
  have cz6 : w3.cell? ⟨X + 1, 6, none⟩ = some (.int .i64 x.len) := cz 6
  have cz7 : w3.cell? ⟨X + 1, 7, none⟩ = some (.int .i64 x.total) := cz 7
  have cz8 : w3.cell? ⟨X + 1, 8, none⟩ = some (.int .i64 x.num) := cz 8
  have cz9 : w3.cell? ⟨X + 1, 9, none⟩ = some (.slice a2 x.dn c2) := cz 9
  clear cz
  exact done (x.data a2 c2).frv rfl (by simp [results, Try.results60, go_sem, cz0, cz1, cz2, cz3, cz4, cz5, cz6, cz7, cz8, cz9]; rfl) ⟨a2, c2, rfl, HO3.out, HB3.out⟩
set_option maxRecDepth 100000 in
set_option maxHeartbeats 4000000 in
theorem pown (x : It) (l : List UInt8) (w : World) (h : Rd w 1 (.slice x.da x.dn x.dc) x.dn (bcells l)) (hl : x.dn ≤ 1073741824) :
    Calls Try.prog 65 #[x.val] w fun e w' => ∃ a c, e = .returned (x.data a c).val ∧ w'.ownsRow w.heap.size TU 1 (.slice a x.dn c) x.dn (bcells l) ∧ Below w.heap.size w w' := by
  unfold It.val
  have HR := Lib.hid h
  clear h
  go_enter Try.func65, Try.ntmps65
  go_upto_region 1 with fail
  have OX := Lib.hid ((Ob.new w #[.int .i64 x.kind, .int .i64 x.src, .int .i64 x.dst, .int .i64 x.prio, .int .u64 x.msg, .int .i64 x.off, .int .i64 x.len, .int .i64 x.total, .int .i64 x.num, .slice x.da x.dn x.dc, .int .i64 x.path] TIt).alloc (.cells #[.int .i64 0, .int .i64 0, .int .i64 0, .int .i64 0, .int .u64 0, .int .i64 0, .int .i64 0, .int .i64 0, .int .i64 0, .slice none 0 0, .int .i64 0] TIt))
  have OY := Lib.hid (Ob.new (w.alloc (.cells #[.int .i64 x.kind, .int .i64 x.src, .int .i64 x.dst, .int .i64 x.prio, .int .u64 x.msg, .int .i64 x.off, .int .i64 x.len, .int .i64 x.total, .int .i64 x.num, .slice x.da x.dn x.dc, .int .i64 x.path] TIt)) #[.int .i64 0, .int .i64 0, .int .i64 0, .int .i64 0, .int .u64 0, .int .i64 0, .int .i64 0, .int .i64 0, .int .i64 0, .slice none 0 0, .int .i64 0] TIt)
  have HB := Lib.hid (((Below.refl w.heap.size w).alloc (Nat.le_refl _) (.cells #[.int .i64 x.kind, .int .i64 x.src, .int .i64 x.dst, .int .i64 x.prio, .int .u64 x.msg, .int .i64 x.off, .int .i64 x.len, .int .i64 x.total, .int .i64 x.num, .slice x.da x.dn x.dc, .int .i64 x.path] TIt)).alloc (by rw [World.size_alloc]; omega) (.cells #[.int .i64 0, .int .i64 0, .int .i64 0, .int .i64 0, .int .u64 0, .int .i64 0, .int .i64 0, .int .i64 0, .int .i64 0, .slice none 0 0, .int .i64 0] TIt))
  rw [World.size_alloc] at OY
  generalize (w.alloc (.cells #[.int .i64 x.kind, .int .i64 x.src, .int .i64 x.dst, .int .i64 x.prio, .int .u64 x.msg, .int .i64 x.off, .int .i64 x.len, .int .i64 x.total, .int .i64 x.num, .slice x.da x.dn x.dc, .int .i64 x.path] TIt)).alloc (.cells #[.int .i64 0, .int .i64 0, .int .i64 0, .int .i64 0, .int .u64 0, .int .i64 0, .int .i64 0, .int .i64 0, .int .i64 0, .slice none 0 0, .int .i64 0] TIt) = w1 at *
  obtain ⟨X, HX⟩ : ∃ X, Hid (w.heap.size = X) := ⟨_, Lib.hid rfl⟩
  rw [HX.out] at OX OY ⊢
  obtain ⟨lx, cx, fx⟩ := OX.out.blk
  have cx0 : w1.cell? ⟨X, 0, none⟩ = some (.int .i64 x.kind) := cx 0
  have cx1 : w1.cell? ⟨X, 1, none⟩ = some (.int .i64 x.src) := cx 1
  have cx2 : w1.cell? ⟨X, 2, none⟩ = some (.int .i64 x.dst) := cx 2
  have cx3 : w1.cell? ⟨X, 3, none⟩ = some (.int .i64 x.prio) := cx 3
  have cx4 : w1.cell? ⟨X, 4, none⟩ = some (.int .u64 x.msg) := cx 4
  have cx5 : w1.cell? ⟨X, 5, none⟩ = some (.int .i64 x.off) := cx 5
  have cx6 : w1.cell? ⟨X, 6, none⟩ = some (.int .i64 x.len) := cx 6
  have cx7 : w1.cell? ⟨X, 7, none⟩ = some (.int .i64 x.total) := cx 7
  have cx8 : w1.cell? ⟨X, 8, none⟩ = some (.int .i64 x.num) := cx 8
  have cx9 : w1.cell? ⟨X, 9, none⟩ = some (.slice x.da x.dn x.dc) := cx 9
  have cx10 : w1.cell? ⟨X, 10, none⟩ = some (.int .i64 x.path) := cx 10
  clear cx
  go_wp2_with fail
  have hown := wown x l w1 (HR.out.below HB.out) hl
  unfold It.frv It.data at hown
  refine hown.mono ?_
  rintro e w2 ⟨a2, c2, rfl, ho2, hb2⟩
  have OX2 := Lib.hid (OX.out.below hb2)
  have OY2 := Lib.hid (OY.out.below hb2)
  have HB2 := Lib.hid (HB.out.trans (hb2.mono HB.out.size))
  have HNE := Lib.hid (fun y hy => (ho2.lt y hy).1)
  have HO2 := Lib.hid (own_baseP (B' := w.heap.size) ho2 HB.out.size)
  clear hb2 ho2 fx lx cx0 cx1 cx2 cx3 cx4 cx5 cx6 cx7 cx8 cx9 cx10
  obtain ⟨lx, cx, fx⟩ := OX2.out.blk
  have cx0 : w2.cell? ⟨X, 0, none⟩ = some (.int .i64 x.kind) := cx 0
  have cx1 : w2.cell? ⟨X, 1, none⟩ = some (.int .i64 x.src) := cx 1
  have cx2 : w2.cell? ⟨X, 2, none⟩ = some (.int .i64 x.dst) := cx 2
  have cx3 : w2.cell? ⟨X, 3, none⟩ = some (.int .i64 x.prio) := cx 3
  have cx4 : w2.cell? ⟨X, 4, none⟩ = some (.int .u64 x.msg) := cx 4
  have cx5 : w2.cell? ⟨X, 5, none⟩ = some (.int .i64 x.off) := cx 5
  have cx6 : w2.cell? ⟨X, 6, none⟩ = some (.int .i64 x.len) := cx 6
  have cx7 : w2.cell? ⟨X, 7, none⟩ = some (.int .i64 x.total) := cx 7
  have cx8 : w2.cell? ⟨X, 8, none⟩ = some (.int .i64 x.num) := cx 8
  have cx9 : w2.cell? ⟨X, 9, none⟩ = some (.slice x.da x.dn x.dc) := cx 9
  have cx10 : w2.cell? ⟨X, 10, none⟩ = some (.int .i64 x.path) := cx 10
  clear cx
  obtain ⟨ly, cy, fy⟩ := OY2.out.blk
  have cy0 : w2.cell? ⟨X + 1, 0, none⟩ = some (.int .i64 0) := cy 0
  have cy1 : w2.cell? ⟨X + 1, 1, none⟩ = some (.int .i64 0) := cy 1
  have cy2 : w2.cell? ⟨X + 1, 2, none⟩ = some (.int .i64 0) := cy 2
  have cy3 : w2.cell? ⟨X + 1, 3, none⟩ = some (.int .i64 0) := cy 3
  have cy4 : w2.cell? ⟨X + 1, 4, none⟩ = some (.int .u64 0) := cy 4
  have cy5 : w2.cell? ⟨X + 1, 5, none⟩ = some (.int .i64 0) := cy 5
  have cy6 : w2.cell? ⟨X + 1, 6, none⟩ = some (.int .i64 0) := cy 6
  have cy7 : w2.cell? ⟨X + 1, 7, none⟩ = some (.int .i64 0) := cy 7
  have cy8 : w2.cell? ⟨X + 1, 8, none⟩ = some (.int .i64 0) := cy 8
  have cy9 : w2.cell? ⟨X + 1, 9, none⟩ = some (.slice none 0 0) := cy 9
  have cy10 : w2.cell? ⟨X + 1, 10, none⟩ = some (.int .i64 0) := cy 10
  clear cy
  have hX0 : w.heap.size ≤ X := by rw [HX.out]; exact Nat.le_refl _
  have hX1 : w.heap.size ≤ X + 1 := by omega
  go_wp2_with fail
  have hK1 : Kept (fun y => y = X ∨ y = X + 1) w2 (w2.setCells X 0 [.int .i64 x.kind, .int .i64 x.src, .int .i64 x.dst, .int .i64 x.prio, .int .u64 x.msg, .int .i64 x.off, .int .i64 x.len, .int .i64 x.total, .int .i64 x.num, .slice a2 x.dn c2]) := (Kept.refl _ w2).setsO (X := X) (.inl rfl) _
  have hB1 := Below.sets HB2.out hX0 HB2.out.size [.int .i64 x.kind, .int .i64 x.src, .int .i64 x.dst, .int .i64 x.prio, .int .u64 x.msg, .int .i64 x.off, .int .i64 x.len, .int .i64 x.total, .int .i64 x.num, .slice a2 x.dn c2]
  have hO1 := OY2.out.kept (Kept.sets [.int .i64 x.kind, .int .i64 x.src, .int .i64 x.dst, .int .i64 x.prio, .int .u64 x.msg, .int .i64 x.off, .int .i64 x.len, .int .i64 x.total, .int .i64 x.num, .slice a2 x.dn c2] 0 w2 (Kept.refl (Only X) w2)) (fun hh => by have : X + 1 = X := hh; omega)
  have hsz : w.heap.size ≤ w2.heap.size := HB2.out.size
  have hw : (((((((((((((((((((((w2.setCell ⟨X, 0, none⟩ (.int .i64 x.kind)).setCell ⟨X, 1, none⟩ (.int .i64 x.src)).setCell ⟨X, 2, none⟩ (.int .i64 x.dst)).setCell ⟨X, 3, none⟩ (.int .i64 x.prio)).setCell ⟨X, 4, none⟩ (.int .u64 x.msg)).setCell ⟨X, 5, none⟩ (.int .i64 x.off)).setCell ⟨X, 6, none⟩ (.int .i64 x.len)).setCell ⟨X, 7, none⟩ (.int .i64 x.total)).setCell ⟨X, 8, none⟩ (.int .i64 x.num)).setCell ⟨X, 9, none⟩ (.slice a2 x.dn c2)).setCell ⟨X + 1, 0, none⟩ (.int .i64 x.kind)).setCell ⟨X + 1, 1, none⟩ (.int .i64 x.src)).setCell ⟨X + 1, 2, none⟩ (.int .i64 x.dst)).setCell ⟨X + 1, 3, none⟩ (.int .i64 x.prio)).setCell ⟨X + 1, 4, none⟩ (.int .u64 x.msg)).setCell ⟨X + 1, 5, none⟩ (.int .i64 x.off)).setCell ⟨X + 1, 6, none⟩ (.int .i64 x.len)).setCell ⟨X + 1, 7, none⟩ (.int .i64 x.total)).setCell ⟨X + 1, 8, none⟩ (.int .i64 x.num)).setCell ⟨X + 1, 9, none⟩ (.slice a2 x.dn c2)).setCell ⟨X + 1, 10, none⟩ (.int .i64 x.path)) = (w2.setCells X 0 [.int .i64 x.kind, .int .i64 x.src, .int .i64 x.dst, .int .i64 x.prio, .int .u64 x.msg, .int .i64 x.off, .int .i64 x.len, .int .i64 x.total, .int .i64 x.num, .slice a2 x.dn c2]).setCells (X + 1) 0 [.int .i64 x.kind, .int .i64 x.src, .int .i64 x.dst, .int .i64 x.prio, .int .u64 x.msg, .int .i64 x.off, .int .i64 x.len, .int .i64 x.total, .int .i64 x.num, .slice a2 x.dn c2, .int .i64 x.path] := rfl
  rw [hw]
  clear hw
  generalize w2.setCells X 0 [.int .i64 x.kind, .int .i64 x.src, .int .i64 x.dst, .int .i64 x.prio, .int .u64 x.msg, .int .i64 x.off, .int .i64 x.len, .int .i64 x.total, .int .i64 x.num, .slice a2 x.dn c2] = w21 at *
  have hs21 : w2.heap.size ≤ w21.heap.size := hK1.size
  have HK3 := Lib.hid (hK1.setsO (X := X + 1) (.inr rfl) [.int .i64 x.kind, .int .i64 x.src, .int .i64 x.dst, .int .i64 x.prio, .int .u64 x.msg, .int .i64 x.off, .int .i64 x.len, .int .i64 x.total, .int .i64 x.num, .slice a2 x.dn c2, .int .i64 x.path])
  have HB3 := Lib.hid (Below.sets hB1 hX1 (by omega) [.int .i64 x.kind, .int .i64 x.src, .int .i64 x.dst, .int .i64 x.prio, .int .u64 x.msg, .int .i64 x.off, .int .i64 x.len, .int .i64 x.total, .int .i64 x.num, .slice a2 x.dn c2, .int .i64 x.path])
  have OY3 := Lib.hid (hO1.sets [.int .i64 x.kind, .int .i64 x.src, .int .i64 x.dst, .int .i64 x.prio, .int .u64 x.msg, .int .i64 x.off, .int .i64 x.len, .int .i64 x.total, .int .i64 x.num, .slice a2 x.dn c2, .int .i64 x.path] rfl)
  have hs1 : X + 1 < w1.heap.size := OY.out.lt
  have HO3 := Lib.hid (own_kept HO2.out HK3.out (fun y hy hh => by
    have := HNE.out y hy
    rcases hh with rfl | rfl <;> omega))
  clear HK3 hK1 hB1 hO1
  generalize w21.setCells (X + 1) 0 [.int .i64 x.kind, .int .i64 x.src, .int .i64 x.dst, .int .i64 x.prio, .int .u64 x.msg, .int .i64 x.off, .int .i64 x.len, .int .i64 x.total, .int .i64 x.num, .slice a2 x.dn c2, .int .i64 x.path] = w3 at *
  obtain ⟨lz, cz, fz⟩ := OY3.out.blk
  have cz0 : w3.cell? ⟨X + 1, 0, none⟩ = some (.int .i64 x.kind) := cz 0
  have cz1 : w3.cell? ⟨X + 1, 1, none⟩ = some (.int .i64 x.src) := cz 1
  have cz2 : w3.cell? ⟨X + 1, 2, none⟩ = some (.int .i64 x.dst) := cz 2
  have cz3 : w3.cell? ⟨X + 1, 3, none⟩ = some (.int .i64 x.prio) := cz 3
  have cz4 : w3.cell? ⟨X + 1, 4, none⟩ = some (.int .u64 x.msg) := cz 4
  have cz5 : w3.cell? ⟨X + 1, 5, none⟩ = some (.int .i64 x.off) := cz 5
  have cz6 : w3.cell? ⟨X + 1, 6, none⟩ = some (.int .i64 x.len) := cz 6
  have cz7 : w3.cell? ⟨X + 1, 7, none⟩ = some (.int .i64 x.total) := cz 7
  have cz8 : w3.cell? ⟨X + 1, 8, none⟩ = some (.int .i64 x.num) := cz 8
  have cz9 : w3.cell? ⟨X + 1, 9, none⟩ = some (.slice a2 x.dn c2) := cz 9
  have cz10 : w3.cell? ⟨X + 1, 10, none⟩ = some (.int .i64 x.path) := cz 10
  clear cz
  exact done (x.data a2 c2).val rfl (by simp [results, Try.results65, go_sem, cz0, cz1, cz2, cz3, cz4, cz5, cz6, cz7, cz8, cz9, cz10]; rfl) ⟨a2, c2, rfl, HO3.out, HB3.out⟩
end Go.Proofs.Ytoihhidoafgoaaa
