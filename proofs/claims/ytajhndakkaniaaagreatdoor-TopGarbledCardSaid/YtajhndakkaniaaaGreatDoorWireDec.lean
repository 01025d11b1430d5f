/- Bytes read as a frame (wire, chapter 10, and the reference's). -/
import Derived.Test.YtajhndakkaniaaaGreatDoorWireEq
import Derived.Test.YtajhndakkaniaaaGreatDoorTail
namespace Go.Proofs.YtajhndakkaniaaaGreatDoor
open Go.RowKit

theorem own_ge {w : World} {B : Nat} {e : TypeId} {size : Nat} {v : Value} {n : Nat} {xs : List Value} (h : w.ownsRow B e size v n xs) : ∀ a l c, v = .slice (some a) l c → B ≤ a.block := by
  rintro a l c rfl
  exact (h.lt a.block rfl).1
def ClonePost (l : List UInt8) (w : World) (e : Ending) (w' : World) : Prop := ∃ v, e = .returned v ∧ Rd w' 1 v l.length (bcells l) ∧ (∀ a n c, v = .slice (some a) n c → w.heap.size ≤ a.block) ∧ Below w.heap.size w w'
theorem clone_any (v : Value) (l : List UInt8) (w : World) (h : Rd w 1 v l.length (bcells l)) (hl : l.length ≤ 100000) : Calls Tryz.prog 40 #[v] w (ClonePost l w) := by
  rcases h with ⟨rfl, h2, h3⟩ | ⟨a, cap, rfl, h4, h5, h6, h7⟩
  · go_enter Tryz.func40, Tryz.ntmps40
    go_wp2
    go_ret
    exact ⟨_, rfl, .inl ⟨rfl, h2, h3⟩, by simp, Below.refl _ _⟩
  · have HR := Lib.hid (show Rd w 1 (.slice (some a) l.length cap) l.length (bcells l) from .inr ⟨a, cap, rfl, h4, h5, h6, h7⟩)
    clear h6 h7
    have HO := Lib.hid (World.ownsRow_made (e := 5) (size := 1) w #[] 0 (Nat.le_refl _) (by decide) rfl)
    go_enter Tryz.func40, Tryz.ntmps40
    go_wp2_with (at_builtin; refine wpList_appS rfl _ _ 33 rfl info_u8 Tryz.underlying33 rfl (by decide) HO.out (HR.out.alloc _) rfl rfl (bcells_one l) (by omega) (by simp) ?_)
    intro v1 w1 ho hg
    have HB := Lib.hid (((Below.refl w.heap.size w).alloc (Nat.le_refl _) (.cells #[] 5)).grown hg (by simp) (by intro k hk; simp [Value.ownBlock] at hk; omega))
    have HO2 := Lib.hid ho
    clear hg ho
    go_wp2
    go_ret
    exact ⟨_, rfl, Rd.of_own (by simpa using HO2.out), own_ge HO2.out, HB.out⟩
def zeroF : Value := .agg #[.int .i64 0, .int .i64 0, .int .i64 0, .int .i64 0, .int .u64 0, .int .i64 0, .int .i64 0, .int .i64 0, .int .i64 0, .slice none 0 0]
def DecPost (l : List UInt8) (w : World) (e : Ending) (w' : World) : Prop :=
  (goodB l ∧ (∃ v, e = .returned (.tuple #[(rdF l).val v, .int .i64 0]) ∧ Rd w' 1 v (l.drop 26).length (bcells (l.drop 26))) ∨ ¬ goodB l ∧ e = .returned (.tuple #[zeroF, .int .i64 2])) ∧ Below w.heap.size w w'
theorem kept_two {n : Nat} {w W1 W2 : World} (h1 : Below n w W1) (h2 : Below n w W2) (hs : W1.heap.size ≤ W2.heap.size) : Kept (Since n) W1 W2 :=
  ⟨h2.os.trans h1.os.symm, h2.tape.trans h1.tape.symm, h2.output.trans h1.output.symm, hs, fun b _ hn => (h2.block b (Nat.lt_of_not_le hn)).trans (h1.block b (Nat.lt_of_not_le hn)).symm⟩
theorem below_set {B : Nat} {w w' : World} {a : Addr} {v : Value} (h : Below B w w') (ha : B ≤ a.block) : Below B w (w'.setCell a v) :=
  ⟨h.os, h.tape, h.output, by rw [Go.Deep.nblk_setCell]; exact h.size, fun b hb => (Go.Deep.blk_setCell_other w' a v b (by omega)).trans (h.block b hb)⟩
theorem Rd.part {w : World} {l : List UInt8} {a : Option Addr} {cap : Nat} (h : Rd w 1 (.slice a l.length cap) l.length (bcells l)) (i m : Nat) (hi : i ≤ m) (hm : m ≤ l.length) :
    Rd w 1 (.slice (slAddr a cap i 1) (m - i) (cap - i)) ((l.drop i).take (m - i)).length (bcells ((l.drop i).take (m - i))) := by
  have := h.sub i m hi hm
  rw [bcells_sub] at this
  rw [show ((l.drop i).take (m - i)).length = m - i by rw [List.length_take, List.length_drop]; omega]
  exact this
theorem get_part (l : List UInt8) (a : Option Addr) (cap : Nat) (w : World) (h : Rd w 1 (.slice a l.length cap) l.length (bcells l)) (i m g : Nat) (hi : i ≤ m ∧ m ≤ i + 8) (hm : m ≤ l.length) (hg : getB ((l.drop i).take (m - i)) = g) :
    Calls Tryz.prog 39 #[.slice (slAddr a cap i 1) (m - i) (cap - i)] w fun e w' => e = .returned (.int .u64 g) ∧ w = w' := by
  subst hg
  exact get_any _ _ w (h.part i m hi.1 hm) (by rw [List.length_take]; omega)
theorem get_partR (l : List UInt8) (a : Option Addr) (cap : Nat) (w : World) (h : Rd w 1 (.slice a l.length cap) l.length (bcells l)) (i m g : Nat) (hi : i ≤ m ∧ m ≤ i + 8) (hm : m ≤ l.length) (hg : getB ((l.drop i).take (m - i)) = g) :
    Calls Tryz.prog 37 #[.slice (slAddr a cap i 1) (m - i) (cap - i)] w fun e w' => e = .returned (.int .u64 g) ∧ w = w' := by
  subst hg
  exact get_ref _ _ w (h.part i m hi.1 hm) (by rw [List.length_take]; omega)
theorem get_at (l : List UInt8) (b o cap : Nat) (w : World) (h : Rd w 1 (.slice (some ⟨b, o, none⟩) l.length cap) l.length (bcells l)) (i n g : Nat) (hn : n ≤ 8) (hm : i + n ≤ l.length) (hc : i < cap) (hg : getB ((l.drop i).take n) = g) :
    Calls Tryz.prog 37 #[.slice (some ⟨b, o + i, none⟩) n (cap - i)] w fun e w' => e = .returned (.int .u64 g) ∧ w = w' := by
  have h1 := get_partR l (some ⟨b, o, none⟩) cap w h i (i + n) g (by omega) hm (by rw [Nat.add_sub_cancel_left]; exact hg)
  rw [Nat.add_sub_cancel_left] at h1
  unfold slAddr at h1
  rw [if_neg (by omega), Option.map_some, addr_add, Nat.mul_one] at h1
  exact h1
theorem Rd.tail {w : World} {l : List UInt8} {a : Option Addr} {cap : Nat} (h : Rd w 1 (.slice a l.length cap) l.length (bcells l)) (i : Nat) (hi : i ≤ l.length) :
    Rd w 1 (.slice (slAddr a cap i 1) (l.length - i) (cap - i)) (l.drop i).length (bcells (l.drop i)) := by
  have := h.part i l.length hi (Nat.le_refl _)
  rw [List.take_of_length_le (by rw [List.length_drop]; omega)] at this
  exact this
theorem getB_le (l : List UInt8) (i k : Nat) : getB ((l.drop i).take k) < 256 ^ k :=
  Nat.lt_of_lt_of_le (getB_lt _) (Nat.pow_le_pow_right (by decide) (by rw [List.length_take]; omega))
theorem rdF_eq {l : List UInt8} {x0 x1 x2 g1 g2 g3 g4 g5 : Nat} (e0 : (l.getD 0 0).toNat = x0) (e1 : (l.getD 1 0).toNat = x1) (e2 : (l.getD 2 0).toNat = x2) (q1 : getB ((l.drop 4).take 8) = g1) (q2 : getB ((l.drop 12).take 4) = g2)
    (q3 : getB ((l.drop 16).take 4) = g3) (q4 : getB ((l.drop 20).take 2) = g4) (q5 : getB ((l.drop 22).take 4) = g5) :
    (⟨(x0 : Int), (x1 : Int) / 16, (x1 : Int) % 16, (x2 : Int), (g1 : Int), (g2 : Int), (g4 : Int), (g3 : Int), (g5 : Int), l.drop 26⟩ : Fr) = rdF l := by
  subst e0 e1 e2 q1 q2 q3 q4 q5
  unfold rdF
  simp
/-- ten fields stored -/
theorem ob10 {w : World} {R : Nat} {T : TypeId} {c0 c1 c2 c3 c4 c5 c6 c7 c8 c9 : Value} (h : Ob w R #[c0, c1, c2, c3, c4, c5, c6, c7, c8, c9] T) (v0 v1 v2 v3 v4 v5 v6 v7 v8 v9 : Value) : Ob ((((((((((w.setCell ⟨R, 0, none⟩ v0).setCell ⟨R, 1, none⟩ v1).setCell ⟨R, 2, none⟩ v2).setCell ⟨R, 3, none⟩ v3).setCell ⟨R, 4, none⟩ v4).setCell ⟨R, 5, none⟩ v5).setCell ⟨R, 6, none⟩ v6).setCell ⟨R, 7, none⟩ v7).setCell ⟨R, 8, none⟩ v8).setCell ⟨R, 9, none⟩ v9) R #[v0, v1, v2, v3, v4, v5, v6, v7, v8, v9] T := by
  refine Ob.cast ((((((((((h.set 0 v0).set 1 v1).set 2 v2).set 3 v3).set 4 v4).set 5 v5).set 6 v6).set 7 v7).set 8 v8).set 9 v9) ?_
  simp only [List.setIfInBounds_toArray, List.set_cons_zero, List.set_cons_succ]
theorem below10 {w0 w : World} {R B : Nat} (h : Below B w0 w) (hR : B ≤ R) (v0 v1 v2 v3 v4 v5 v6 v7 v8 v9 : Value) : Below B w0 ((((((((((w.setCell ⟨R, 0, none⟩ v0).setCell ⟨R, 1, none⟩ v1).setCell ⟨R, 2, none⟩ v2).setCell ⟨R, 3, none⟩ v3).setCell ⟨R, 4, none⟩ v4).setCell ⟨R, 5, none⟩ v5).setCell ⟨R, 6, none⟩ v6).setCell ⟨R, 7, none⟩ v7).setCell ⟨R, 8, none⟩ v8).setCell ⟨R, 9, none⟩ v9) := (below_set (below_set (below_set (below_set (below_set (below_set (below_set (below_set (below_set (below_set h hR) hR) hR) hR) hR) hR) hR) hR) hR) hR)
theorem kept10 (w : World) (R : Nat) (v0 v1 v2 v3 v4 v5 v6 v7 v8 v9 : Value) : Kept (Only R) w ((((((((((w.setCell ⟨R, 0, none⟩ v0).setCell ⟨R, 1, none⟩ v1).setCell ⟨R, 2, none⟩ v2).setCell ⟨R, 3, none⟩ v3).setCell ⟨R, 4, none⟩ v4).setCell ⟨R, 5, none⟩ v5).setCell ⟨R, 6, none⟩ v6).setCell ⟨R, 7, none⟩ v7).setCell ⟨R, 8, none⟩ v8).setCell ⟨R, 9, none⟩ v9) := (((((((((((Kept.refl (Only R) w).setO).setO).setO).setO).setO).setO).setO).setO).setO).setO)
def F0 : Array Value := #[.int .i64 0, .int .i64 0, .int .i64 0, .int .i64 0, .int .u64 0, .int .i64 0, .int .i64 0, .int .i64 0, .int .i64 0, .slice none 0 0]
set_option maxHeartbeats 4000000 in
set_option maxRecDepth 100000 in
theorem decode_in (l : List UInt8) (v : Value) (w : World) (h : Rd w 1 v l.length (bcells l)) (h1 : 26 ≤ l.length) (h2 : l.length ≤ 1526) : Calls Tryz.prog 18 #[v] w (DecPost l w) := by
  obtain ⟨b, o, cp, rfl, h3, h4, hb, hc⟩ := h.some (by omega) (by decide)
  have HR := Lib.hid h
  obtain ⟨x0, hx0, E0⟩ : ∃ x : Nat, (x : Int) ≤ 255 ∧ Hid ((l.getD 0 0).toNat = x) := ⟨_, by have := (l.getD 0 0).toNat_lt; omega, Lib.hid rfl⟩
  obtain ⟨x1, hx1, E1⟩ : ∃ x : Nat, (x : Int) ≤ 255 ∧ Hid ((l.getD 1 0).toNat = x) := ⟨_, by have := (l.getD 1 0).toNat_lt; omega, Lib.hid rfl⟩
  obtain ⟨x2, hx2, E2⟩ : ∃ x : Nat, (x : Int) ≤ 255 ∧ Hid ((l.getD 2 0).toNat = x) := ⟨_, by have := (l.getD 2 0).toNat_lt; omega, Lib.hid rfl⟩
  have c0 := hc 0 (.int .u8 x0) (by rw [← E0.out]; simp [bcells, List.getD_eq_getElem?_getD, show 0 < l.length by omega])
  have c1 := hc 1 (.int .u8 x1) (by rw [← E1.out]; simp [bcells, List.getD_eq_getElem?_getD, show 1 < l.length by omega])
  have c2 := hc 2 (.int .u8 x2) (by rw [← E2.out]; simp [bcells, List.getD_eq_getElem?_getD, show 2 < l.length by omega])
  rw [Nat.add_zero] at c0
  clear hc h
  have q0 : (0 : Int) < l.length := by omega
  have q1 : (1 : Int) < l.length := by omega
  have q2 : (2 : Int) < l.length := by omega
  go_enter Tryz.func18, Tryz.ntmps18
  go_wp2_with fail
  have ns := not_since hb
  refine wp_run (M := (Since w.heap.size)) (stages [([true, true, true, true, true, true, true, true, true, true, true, true, true, true, true, true, true, true, true, false, false], 19), ([false, false, false, false, false, false, false, false, false, false, false, false, false, false, false, false, false, false, false, false, false], 20)] [false, false, false, false, false, false, false, false, false, false, false, false, false, false, false, false, false, false, false, false, false]) (by kernel_rfl) (by kernel_rfl) ?_
  refine run_stage rfl ?_
  simp only [pickAt]
  repeat (go_big_quiet_step (fail))
  refine wpQuiet_nil ?_
  refine run_want rfl ?_
  intro A hA
  go_simp
  refine hA _ _ (((Kept.refl _ _).alloc _)) ?_
  try simp only [Act.put, List.setIfInBounds_toArray, List.set_cons_zero, List.set_cons_succ]
  clear A hA
  refine run_stage rfl ?_
  simp only [pickAt]
  repeat (go_big_quiet_step (fail))
  refine wpQuiet_nil ?_
  refine run_want rfl ?_
  intro A hA
  go_simp
  have BR := Lib.hid ((Below.refl w.heap.size w).alloc (Nat.le_refl _) (.cells F0 44))
  have B1 := Lib.hid (BR.out.alloc (by simp) (.cells F0 44))
  have B2 := Lib.hid (BR.out.alloc (by simp) (.cells #[.int .i64 x0, .int .i64 ((x1 : Int) / 16), .int .i64 ((x1 : Int) % 16), .int .i64 x2, .int .u64 0, .int .i64 0, .int .i64 0, .int .i64 0, .int .i64 0, .slice none 0 0] 44))
  refine hA _ _ ((kept_two B1.out.drew B2.out.drew (by simp))) ?_
  try simp only [Act.put, List.setIfInBounds_toArray, List.set_cons_zero, List.set_cons_succ]
  clear A hA
  refine run_last ?_
  simp only [pickAt]
  repeat (go_big_quiet_step (fail))
  refine wpQuiet_nil ?_
  have OF := Lib.hid (Ob.new (w.alloc (.cells F0 44)) #[.int .i64 x0, .int .i64 ((x1 : Int) / 16), .int .i64 ((x1 : Int) % 16), .int .i64 x2, .int .u64 0, .int .i64 0, .int .i64 0, .int .i64 0, .int .i64 0, .slice none 0 0] 44).drew
  have OR := Lib.hid ((Ob.new w F0 44).alloc (.cells #[.int .i64 x0, .int .i64 ((x1 : Int) / 16), .int .i64 ((x1 : Int) % 16), .int .i64 x2, .int .u64 0, .int .i64 0, .int .i64 0, .int .i64 0, .int .i64 0, .slice none 0 0] 44)).drew
  have B3 := Lib.hid B2.out.drew
  unfold F0 at OF OR B3
  have s3 : (((w.alloc (.cells #[.int .i64 0, .int .i64 0, .int .i64 0, .int .i64 0, .int .u64 0, .int .i64 0, .int .i64 0, .int .i64 0, .int .i64 0, .slice none 0 0] 44)).alloc (.cells #[.int .i64 x0, .int .i64 ((x1 : Int) / 16), .int .i64 ((x1 : Int) % 16), .int .i64 x2, .int .u64 0, .int .i64 0, .int .i64 0, .int .i64 0, .int .i64 0, .slice none 0 0] 44)).drew).heap.size = w.heap.size + 2 := by simp
  rw [World.size_alloc] at OF
  clear B1 B2 BR c0 c1 c2 ns
  generalize ((w.alloc (.cells #[.int .i64 0, .int .i64 0, .int .i64 0, .int .i64 0, .int .u64 0, .int .i64 0, .int .i64 0, .int .i64 0, .int .i64 0, .slice none 0 0] 44)).alloc (.cells #[.int .i64 x0, .int .i64 ((x1 : Int) / 16), .int .i64 ((x1 : Int) % 16), .int .i64 x2, .int .u64 0, .int .i64 0, .int .i64 0, .int .i64 0, .int .i64 0, .slice none 0 0] 44)).drew = W3 at *
  obtain ⟨g1, hg1, G1⟩ : ∃ g : Nat, (g : Int) ≤ 18446744073709551615 ∧ Hid (getB ((l.drop 4).take 8) = g) := ⟨_, by have := getB_le l 4 8; simp only [Nat.reducePow] at this; omega, Lib.hid rfl⟩
  obtain ⟨g2, hg2, G2⟩ : ∃ g : Nat, (g : Int) ≤ 4294967295 ∧ Hid (getB ((l.drop 12).take 4) = g) := ⟨_, by have := getB_le l 12 4; simp only [Nat.reducePow] at this; omega, Lib.hid rfl⟩
  obtain ⟨g3, hg3, G3⟩ : ∃ g : Nat, (g : Int) ≤ 4294967295 ∧ Hid (getB ((l.drop 16).take 4) = g) := ⟨_, by have := getB_le l 16 4; simp only [Nat.reducePow] at this; omega, Lib.hid rfl⟩
  obtain ⟨g4, hg4, G4⟩ : ∃ g : Nat, (g : Int) ≤ 65535 ∧ Hid (getB ((l.drop 20).take 2) = g) := ⟨_, by have := getB_le l 20 2; simp only [Nat.reducePow] at this; omega, Lib.hid rfl⟩
  obtain ⟨g5, hg5, G5⟩ : ∃ g : Nat, (g : Int) ≤ 4294967295 ∧ Hid (getB ((l.drop 22).take 4) = g) := ⟨_, by have := getB_le l 22 4; simp only [Nat.reducePow] at this; omega, Lib.hid rfl⟩
  have OF3 := Lib.hid OF.out
  have OR3 := Lib.hid OR.out
  clear OF OR
  obtain ⟨lf, cf, ff⟩ := OF3.out.blk
  go_wp2_with (refine wpList_sl2 rfl _ _ _ _ rfl Tryz.underlying33 info_u8 rfl rfl rfl (by omega) ?_)
  refine (get_part l _ _ _ (HR.out.below B3.out) 4 12 g1 (by omega) (by omega) G1.out).mono ?_
  rintro e w' ⟨rfl, rfl⟩
  have OF4 := Lib.hid (OF3.out.set 4 (.int .u64 g1))
  have OR4 := Lib.hid (OR3.out.other ⟨w.heap.size + 1, 4, none⟩ (.int .u64 g1) (by show w.heap.size ≠ w.heap.size + 1; omega))
  have B4 := Lib.hid (below_set (a := ⟨w.heap.size + 1, 4, none⟩) (v := .int .u64 g1) B3.out (by show _ ≤ w.heap.size + 1; omega))
  have s4 : (W3.setCell ⟨w.heap.size + 1, 4, none⟩ (.int .u64 g1)).heap.size = w.heap.size + 2 := by rw [Go.Deep.nblk_setCell]; exact s3
  go_wp2_with (first | (refine wpList_sl2 rfl _ _ _ _ rfl Tryz.underlying33 info_u8 rfl rfl rfl (by omega) ?_) | (refine wpList_slFrom rfl _ _ _ rfl Tryz.underlying33 info_u8 rfl rfl (by omega) ?_))
  generalize W3.setCell ⟨w.heap.size + 1, 4, none⟩ (.int .u64 g1) = W4 at *
  clear lf cf ff
  refine (get_part l _ _ _ (HR.out.below B4.out) 12 16 g2 (by omega) (by omega) G2.out).mono ?_
  rintro e w' ⟨rfl, rfl⟩
  obtain ⟨lf, cf, ff⟩ := OF4.out.blk
  have OF5 := Lib.hid (OF4.out.set 5 (.int .i64 g2))
  have OR5 := Lib.hid (OR4.out.other ⟨w.heap.size + 1, 5, none⟩ (.int .i64 g2) (by show w.heap.size ≠ w.heap.size + 1; omega))
  have B5 := Lib.hid (below_set (a := ⟨w.heap.size + 1, 5, none⟩) (v := .int .i64 g2) B4.out (by show _ ≤ w.heap.size + 1; omega))
  have s5 : (W4.setCell ⟨w.heap.size + 1, 5, none⟩ (.int .i64 g2)).heap.size = w.heap.size + 2 := by rw [Go.Deep.nblk_setCell]; exact s4
  go_wp2_with (first | (refine wpList_sl2 rfl _ _ _ _ rfl Tryz.underlying33 info_u8 rfl rfl rfl (by omega) ?_) | (refine wpList_slFrom rfl _ _ _ rfl Tryz.underlying33 info_u8 rfl rfl (by omega) ?_))
  generalize W4.setCell ⟨w.heap.size + 1, 5, none⟩ (.int .i64 g2) = W5 at *
  clear lf cf ff
  refine (get_part l _ _ _ (HR.out.below B5.out) 16 20 g3 (by omega) (by omega) G3.out).mono ?_
  rintro e w' ⟨rfl, rfl⟩
  obtain ⟨lf, cf, ff⟩ := OF5.out.blk
  have OF6 := Lib.hid (OF5.out.set 7 (.int .i64 g3))
  have OR6 := Lib.hid (OR5.out.other ⟨w.heap.size + 1, 7, none⟩ (.int .i64 g3) (by show w.heap.size ≠ w.heap.size + 1; omega))
  have B6 := Lib.hid (below_set (a := ⟨w.heap.size + 1, 7, none⟩) (v := .int .i64 g3) B5.out (by show _ ≤ w.heap.size + 1; omega))
  have s6 : (W5.setCell ⟨w.heap.size + 1, 7, none⟩ (.int .i64 g3)).heap.size = w.heap.size + 2 := by rw [Go.Deep.nblk_setCell]; exact s5
  go_wp2_with (first | (refine wpList_sl2 rfl _ _ _ _ rfl Tryz.underlying33 info_u8 rfl rfl rfl (by omega) ?_) | (refine wpList_slFrom rfl _ _ _ rfl Tryz.underlying33 info_u8 rfl rfl (by omega) ?_))
  generalize W5.setCell ⟨w.heap.size + 1, 7, none⟩ (.int .i64 g3) = W6 at *
  clear lf cf ff
  refine (get_part l _ _ _ (HR.out.below B6.out) 20 22 g4 (by omega) (by omega) G4.out).mono ?_
  rintro e w' ⟨rfl, rfl⟩
  obtain ⟨lf, cf, ff⟩ := OF6.out.blk
  have OF7 := Lib.hid (OF6.out.set 6 (.int .i64 g4))
  have OR7 := Lib.hid (OR6.out.other ⟨w.heap.size + 1, 6, none⟩ (.int .i64 g4) (by show w.heap.size ≠ w.heap.size + 1; omega))
  have B7 := Lib.hid (below_set (a := ⟨w.heap.size + 1, 6, none⟩) (v := .int .i64 g4) B6.out (by show _ ≤ w.heap.size + 1; omega))
  have s7 : (W6.setCell ⟨w.heap.size + 1, 6, none⟩ (.int .i64 g4)).heap.size = w.heap.size + 2 := by rw [Go.Deep.nblk_setCell]; exact s6
  go_wp2_with (first | (refine wpList_sl2 rfl _ _ _ _ rfl Tryz.underlying33 info_u8 rfl rfl rfl (by omega) ?_) | (refine wpList_slFrom rfl _ _ _ rfl Tryz.underlying33 info_u8 rfl rfl (by omega) ?_))
  generalize W6.setCell ⟨w.heap.size + 1, 6, none⟩ (.int .i64 g4) = W7 at *
  clear lf cf ff
  refine (get_part l _ _ _ (HR.out.below B7.out) 22 26 g5 (by omega) (by omega) G5.out).mono ?_
  rintro e w' ⟨rfl, rfl⟩
  obtain ⟨lf, cf, ff⟩ := OF7.out.blk
  have OF8 := Lib.hid (OF7.out.set 8 (.int .i64 g5))
  have OR8 := Lib.hid (OR7.out.other ⟨w.heap.size + 1, 8, none⟩ (.int .i64 g5) (by show w.heap.size ≠ w.heap.size + 1; omega))
  have B8 := Lib.hid (below_set (a := ⟨w.heap.size + 1, 8, none⟩) (v := .int .i64 g5) B7.out (by show _ ≤ w.heap.size + 1; omega))
  have s8 : (W7.setCell ⟨w.heap.size + 1, 8, none⟩ (.int .i64 g5)).heap.size = w.heap.size + 2 := by rw [Go.Deep.nblk_setCell]; exact s7
  go_wp2_with (first | (refine wpList_sl2 rfl _ _ _ _ rfl Tryz.underlying33 info_u8 rfl rfl rfl (by omega) ?_) | (refine wpList_slFrom rfl _ _ _ rfl Tryz.underlying33 info_u8 rfl rfl (by omega) ?_))
  generalize W7.setCell ⟨w.heap.size + 1, 8, none⟩ (.int .i64 g5) = W8 at *
  clear lf cf ff
  refine (clone_any _ (l.drop 26) _ ((HR.out.below B8.out).tail 26 h1) (by rw [List.length_drop]; omega)).mono ?_
  rintro e w9 ⟨v9, rfl, hr9, hn9, hb9⟩
  have R9 := Lib.hid hr9
  have OF9 : Hid (Ob w9 (w.heap.size + 1) _ _) := Lib.hid (OF8.out.below hb9)
  have OR9 : Hid (Ob w9 w.heap.size _ _) := Lib.hid (OR8.out.below hb9)
  have B9 := Lib.hid (B8.out.trans (hb9.mono (by omega)))
  have s9 : w.heap.size + 2 ≤ w9.heap.size := by have := hb9.size; omega
  have N9 := Lib.hid hn9
  clear hr9 hb9 hn9
  obtain ⟨a9, p9, rfl, hp9, hm9⟩ := R9.out.form
  generalize hv9 : (l.drop 26).length = n9 at *
  obtain ⟨lf, cf, ff⟩ := OF9.out.blk
  have OF10 : Hid (Ob (w9.setCell ⟨w.heap.size + 1, 9, none⟩ (.slice a9 n9 p9)) (w.heap.size + 1) #[.int .i64 x0, .int .i64 ((x1 : Int) / 16), .int .i64 ((x1 : Int) % 16), .int .i64 x2, .int .u64 g1, .int .i64 g2, .int .i64 g4, .int .i64 g3, .int .i64 g5, .slice a9 n9 p9] 44) := Lib.hid (OF9.out.set 9 (.slice a9 n9 p9))
  have OR10 := Lib.hid (OR9.out.other ⟨w.heap.size + 1, 9, none⟩ (.slice a9 n9 p9) (by show w.heap.size ≠ w.heap.size + 1; omega))
  have B10 := Lib.hid (below_set (a := ⟨w.heap.size + 1, 9, none⟩) (v := .slice a9 n9 p9) B9.out (by show _ ≤ w.heap.size + 1; omega))
  have s10 : w.heap.size + 2 ≤ (w9.setCell ⟨w.heap.size + 1, 9, none⟩ (.slice a9 n9 p9)).heap.size := by rw [Go.Deep.nblk_setCell]; exact s9
  have R10 := Lib.hid (R9.out.kept ((Kept.refl (Only (w.heap.size + 1)) w9).setO (i := 9) (v := .slice a9 n9 p9)) (fun a n c he hm => by
    have h1 := N9.out a n c he
    have h2 : a.block = w.heap.size + 1 := hm
    omega))
  have HFR := Lib.hid (rdF_eq E0.out E1.out E2.out G1.out G2.out G3.out G4.out G5.out)
  go_wp2_with (go_at_call 41; refine (encode_any ⟨(x0 : Int), (x1 : Int) / 16, (x1 : Int) % 16, (x2 : Int), (g1 : Int), (g2 : Int), (g4 : Int), (g3 : Int), (g5 : Int), l.drop 26⟩ (.slice a9 n9 p9) (by show (0 : Int) ≤ g1; omega) _ (by show Rd _ 1 _ (l.drop 26).length _; rw [hv9]; exact R10.out)).mono ?_)
  rw [HFR.out]
  clear lf cf ff
  generalize w9.setCell ⟨w.heap.size + 1, 9, none⟩ (.slice a9 n9 p9) = w10 at *
  have HG := Lib.hid (show okF (rdF l) → encF (rdF l) = l → goodB l from fun a b => ⟨h1, a, b⟩)
  rintro e w11 ⟨⟨hok, v11, rfl, ho11⟩ | ⟨hno, rfl⟩, hb11⟩
  all_goals
    have B11 := Lib.hid (B10.out.trans (hb11.mono (by omega)))
    have OF11 : Hid (Ob w11 (w.heap.size + 1) _ _) := Lib.hid (OF10.out.below hb11)
    have OR11 : Hid (Ob w11 w.heap.size _ _) := Lib.hid (OR10.out.below hb11)
    have R11 := Lib.hid (R10.out.below hb11)
    have s11 := hb11.size
    clear hb11
    obtain ⟨lf, cf, ff⟩ := OF11.out.blk
    obtain ⟨lr, cr, fr⟩ := OR11.out.blk
  · have O11 := Lib.hid (Rd.of_own ho11)
    have HK := Lib.hid hok
    clear hok ho11
    by_cases he : encF (rdF l) = l
    · have HE := Lib.hid he
      have HD : Hid (decide (encF (rdF l) = l) = true) := Lib.hid (by simp [he])
      clear he
      go_wp2_with (go_at_call 42; refine (equal_any _ _ (encF (rdF l)) l _ (by rw [enc_len]; rw [enc_len] at O11; exact O11.out) (HR.out.below B11.out)).mono ?_; rintro e w' ⟨rfl, rfl⟩; rw [HD.out])
      have ORF : Hid (Ob ((((((((((w11.setCell ⟨w.heap.size, 0, none⟩ (.int .i64 x0)).setCell ⟨w.heap.size, 1, none⟩ (.int .i64 ((x1 : Int) / 16))).setCell ⟨w.heap.size, 2, none⟩ (.int .i64 ((x1 : Int) % 16))).setCell ⟨w.heap.size, 3, none⟩ (.int .i64 x2)).setCell ⟨w.heap.size, 4, none⟩ (.int .u64 g1)).setCell ⟨w.heap.size, 5, none⟩ (.int .i64 g2)).setCell ⟨w.heap.size, 6, none⟩ (.int .i64 g4)).setCell ⟨w.heap.size, 7, none⟩ (.int .i64 g3)).setCell ⟨w.heap.size, 8, none⟩ (.int .i64 g5)).setCell ⟨w.heap.size, 9, none⟩ (.slice a9 n9 p9)) w.heap.size #[.int .i64 x0, .int .i64 ((x1 : Int) / 16), .int .i64 ((x1 : Int) % 16), .int .i64 x2, .int .u64 g1, .int .i64 g2, .int .i64 g4, .int .i64 g3, .int .i64 g5, .slice a9 n9 p9] 44) := Lib.hid (ob10 OR11.out _ _ _ _ _ _ _ _ _ _)
      have BF : Hid (Below w.heap.size w ((((((((((w11.setCell ⟨w.heap.size, 0, none⟩ (.int .i64 x0)).setCell ⟨w.heap.size, 1, none⟩ (.int .i64 ((x1 : Int) / 16))).setCell ⟨w.heap.size, 2, none⟩ (.int .i64 ((x1 : Int) % 16))).setCell ⟨w.heap.size, 3, none⟩ (.int .i64 x2)).setCell ⟨w.heap.size, 4, none⟩ (.int .u64 g1)).setCell ⟨w.heap.size, 5, none⟩ (.int .i64 g2)).setCell ⟨w.heap.size, 6, none⟩ (.int .i64 g4)).setCell ⟨w.heap.size, 7, none⟩ (.int .i64 g3)).setCell ⟨w.heap.size, 8, none⟩ (.int .i64 g5)).setCell ⟨w.heap.size, 9, none⟩ (.slice a9 n9 p9))) := Lib.hid (below10 B11.out (Nat.le_refl _) _ _ _ _ _ _ _ _ _ _)
      have KF : Hid (Kept (Only w.heap.size) w11 ((((((((((w11.setCell ⟨w.heap.size, 0, none⟩ (.int .i64 x0)).setCell ⟨w.heap.size, 1, none⟩ (.int .i64 ((x1 : Int) / 16))).setCell ⟨w.heap.size, 2, none⟩ (.int .i64 ((x1 : Int) % 16))).setCell ⟨w.heap.size, 3, none⟩ (.int .i64 x2)).setCell ⟨w.heap.size, 4, none⟩ (.int .u64 g1)).setCell ⟨w.heap.size, 5, none⟩ (.int .i64 g2)).setCell ⟨w.heap.size, 6, none⟩ (.int .i64 g4)).setCell ⟨w.heap.size, 7, none⟩ (.int .i64 g3)).setCell ⟨w.heap.size, 8, none⟩ (.int .i64 g5)).setCell ⟨w.heap.size, 9, none⟩ (.slice a9 n9 p9))) := Lib.hid (kept10 _ _ _ _ _ _ _ _ _ _ _ _)
      generalize ((((((((((w11.setCell ⟨w.heap.size, 0, none⟩ (.int .i64 x0)).setCell ⟨w.heap.size, 1, none⟩ (.int .i64 ((x1 : Int) / 16))).setCell ⟨w.heap.size, 2, none⟩ (.int .i64 ((x1 : Int) % 16))).setCell ⟨w.heap.size, 3, none⟩ (.int .i64 x2)).setCell ⟨w.heap.size, 4, none⟩ (.int .u64 g1)).setCell ⟨w.heap.size, 5, none⟩ (.int .i64 g2)).setCell ⟨w.heap.size, 6, none⟩ (.int .i64 g4)).setCell ⟨w.heap.size, 7, none⟩ (.int .i64 g3)).setCell ⟨w.heap.size, 8, none⟩ (.int .i64 g5)).setCell ⟨w.heap.size, 9, none⟩ (.slice a9 n9 p9)) = wF at *
      clear lf cf ff lr cr fr
      obtain ⟨lr, cr, fr⟩ := ORF.out.blk
      have HV : (rdF l).val (.slice a9 n9 p9) = .agg #[.int .i64 x0, .int .i64 ((x1 : Int) / 16), .int .i64 ((x1 : Int) % 16), .int .i64 x2, .int .u64 g1, .int .i64 g2, .int .i64 g4, .int .i64 g3, .int .i64 g5, .slice a9 n9 p9] := by rw [← HFR.out]; rfl
      refine done (.tuple #[(rdF l).val (.slice a9 n9 p9), .int .i64 0]) rfl (by rw [HV]; simp [results, Tryz.results18, go_sem, cr]) ⟨.inl ⟨HG.out HK.out HE.out, _, rfl, ?_⟩, BF.out⟩
      rw [hv9]
      exact R11.out.kept KF.out (fun a n c he hm => by
        have h1 := N9.out a n c he
        have h2 : a.block = w.heap.size := hm
        omega)
    · have HE := Lib.hid he
      have HD : Hid (decide (encF (rdF l) = l) = false) := Lib.hid (by simp [he])
      clear he
      go_wp2_with (go_at_call 42; refine (equal_any _ _ (encF (rdF l)) l _ (by rw [enc_len]; rw [enc_len] at O11; exact O11.out) (HR.out.below B11.out)).mono ?_; rintro e w' ⟨rfl, rfl⟩; rw [HD.out])
      have ORF : Hid (Ob ((((((((((w11.setCell ⟨w.heap.size, 0, none⟩ (.int .i64 0)).setCell ⟨w.heap.size, 1, none⟩ (.int .i64 0)).setCell ⟨w.heap.size, 2, none⟩ (.int .i64 0)).setCell ⟨w.heap.size, 3, none⟩ (.int .i64 0)).setCell ⟨w.heap.size, 4, none⟩ (.int .u64 0)).setCell ⟨w.heap.size, 5, none⟩ (.int .i64 0)).setCell ⟨w.heap.size, 6, none⟩ (.int .i64 0)).setCell ⟨w.heap.size, 7, none⟩ (.int .i64 0)).setCell ⟨w.heap.size, 8, none⟩ (.int .i64 0)).setCell ⟨w.heap.size, 9, none⟩ (.slice none 0 0)) w.heap.size #[.int .i64 0, .int .i64 0, .int .i64 0, .int .i64 0, .int .u64 0, .int .i64 0, .int .i64 0, .int .i64 0, .int .i64 0, .slice none 0 0] 44) := Lib.hid (ob10 OR11.out _ _ _ _ _ _ _ _ _ _)
      have BF : Hid (Below w.heap.size w ((((((((((w11.setCell ⟨w.heap.size, 0, none⟩ (.int .i64 0)).setCell ⟨w.heap.size, 1, none⟩ (.int .i64 0)).setCell ⟨w.heap.size, 2, none⟩ (.int .i64 0)).setCell ⟨w.heap.size, 3, none⟩ (.int .i64 0)).setCell ⟨w.heap.size, 4, none⟩ (.int .u64 0)).setCell ⟨w.heap.size, 5, none⟩ (.int .i64 0)).setCell ⟨w.heap.size, 6, none⟩ (.int .i64 0)).setCell ⟨w.heap.size, 7, none⟩ (.int .i64 0)).setCell ⟨w.heap.size, 8, none⟩ (.int .i64 0)).setCell ⟨w.heap.size, 9, none⟩ (.slice none 0 0))) := Lib.hid (below10 B11.out (Nat.le_refl _) _ _ _ _ _ _ _ _ _ _)
      have KF : Hid (Kept (Only w.heap.size) w11 ((((((((((w11.setCell ⟨w.heap.size, 0, none⟩ (.int .i64 0)).setCell ⟨w.heap.size, 1, none⟩ (.int .i64 0)).setCell ⟨w.heap.size, 2, none⟩ (.int .i64 0)).setCell ⟨w.heap.size, 3, none⟩ (.int .i64 0)).setCell ⟨w.heap.size, 4, none⟩ (.int .u64 0)).setCell ⟨w.heap.size, 5, none⟩ (.int .i64 0)).setCell ⟨w.heap.size, 6, none⟩ (.int .i64 0)).setCell ⟨w.heap.size, 7, none⟩ (.int .i64 0)).setCell ⟨w.heap.size, 8, none⟩ (.int .i64 0)).setCell ⟨w.heap.size, 9, none⟩ (.slice none 0 0))) := Lib.hid (kept10 _ _ _ _ _ _ _ _ _ _ _ _)
      generalize ((((((((((w11.setCell ⟨w.heap.size, 0, none⟩ (.int .i64 0)).setCell ⟨w.heap.size, 1, none⟩ (.int .i64 0)).setCell ⟨w.heap.size, 2, none⟩ (.int .i64 0)).setCell ⟨w.heap.size, 3, none⟩ (.int .i64 0)).setCell ⟨w.heap.size, 4, none⟩ (.int .u64 0)).setCell ⟨w.heap.size, 5, none⟩ (.int .i64 0)).setCell ⟨w.heap.size, 6, none⟩ (.int .i64 0)).setCell ⟨w.heap.size, 7, none⟩ (.int .i64 0)).setCell ⟨w.heap.size, 8, none⟩ (.int .i64 0)).setCell ⟨w.heap.size, 9, none⟩ (.slice none 0 0)) = wF at *
      clear lf cf ff lr cr fr
      obtain ⟨lr, cr, fr⟩ := ORF.out.blk
      exact done (.tuple #[zeroF, .int .i64 2]) rfl (by simp [zeroF, results, Tryz.results18, go_sem, cr]) ⟨.inr ⟨fun hg => HE.out hg.2.2, rfl⟩, BF.out⟩
  · have HN := Lib.hid hno
    clear hno
    go_wp2_with fail
    have ORF : Hid (Ob ((((((((((w11.setCell ⟨w.heap.size, 0, none⟩ (.int .i64 0)).setCell ⟨w.heap.size, 1, none⟩ (.int .i64 0)).setCell ⟨w.heap.size, 2, none⟩ (.int .i64 0)).setCell ⟨w.heap.size, 3, none⟩ (.int .i64 0)).setCell ⟨w.heap.size, 4, none⟩ (.int .u64 0)).setCell ⟨w.heap.size, 5, none⟩ (.int .i64 0)).setCell ⟨w.heap.size, 6, none⟩ (.int .i64 0)).setCell ⟨w.heap.size, 7, none⟩ (.int .i64 0)).setCell ⟨w.heap.size, 8, none⟩ (.int .i64 0)).setCell ⟨w.heap.size, 9, none⟩ (.slice none 0 0)) w.heap.size #[.int .i64 0, .int .i64 0, .int .i64 0, .int .i64 0, .int .u64 0, .int .i64 0, .int .i64 0, .int .i64 0, .int .i64 0, .slice none 0 0] 44) := Lib.hid (ob10 OR11.out _ _ _ _ _ _ _ _ _ _)
    have BF : Hid (Below w.heap.size w ((((((((((w11.setCell ⟨w.heap.size, 0, none⟩ (.int .i64 0)).setCell ⟨w.heap.size, 1, none⟩ (.int .i64 0)).setCell ⟨w.heap.size, 2, none⟩ (.int .i64 0)).setCell ⟨w.heap.size, 3, none⟩ (.int .i64 0)).setCell ⟨w.heap.size, 4, none⟩ (.int .u64 0)).setCell ⟨w.heap.size, 5, none⟩ (.int .i64 0)).setCell ⟨w.heap.size, 6, none⟩ (.int .i64 0)).setCell ⟨w.heap.size, 7, none⟩ (.int .i64 0)).setCell ⟨w.heap.size, 8, none⟩ (.int .i64 0)).setCell ⟨w.heap.size, 9, none⟩ (.slice none 0 0))) := Lib.hid (below10 B11.out (Nat.le_refl _) _ _ _ _ _ _ _ _ _ _)
    have KF : Hid (Kept (Only w.heap.size) w11 ((((((((((w11.setCell ⟨w.heap.size, 0, none⟩ (.int .i64 0)).setCell ⟨w.heap.size, 1, none⟩ (.int .i64 0)).setCell ⟨w.heap.size, 2, none⟩ (.int .i64 0)).setCell ⟨w.heap.size, 3, none⟩ (.int .i64 0)).setCell ⟨w.heap.size, 4, none⟩ (.int .u64 0)).setCell ⟨w.heap.size, 5, none⟩ (.int .i64 0)).setCell ⟨w.heap.size, 6, none⟩ (.int .i64 0)).setCell ⟨w.heap.size, 7, none⟩ (.int .i64 0)).setCell ⟨w.heap.size, 8, none⟩ (.int .i64 0)).setCell ⟨w.heap.size, 9, none⟩ (.slice none 0 0))) := Lib.hid (kept10 _ _ _ _ _ _ _ _ _ _ _ _)
    generalize ((((((((((w11.setCell ⟨w.heap.size, 0, none⟩ (.int .i64 0)).setCell ⟨w.heap.size, 1, none⟩ (.int .i64 0)).setCell ⟨w.heap.size, 2, none⟩ (.int .i64 0)).setCell ⟨w.heap.size, 3, none⟩ (.int .i64 0)).setCell ⟨w.heap.size, 4, none⟩ (.int .u64 0)).setCell ⟨w.heap.size, 5, none⟩ (.int .i64 0)).setCell ⟨w.heap.size, 6, none⟩ (.int .i64 0)).setCell ⟨w.heap.size, 7, none⟩ (.int .i64 0)).setCell ⟨w.heap.size, 8, none⟩ (.int .i64 0)).setCell ⟨w.heap.size, 9, none⟩ (.slice none 0 0)) = wF at *
    clear lf cf ff lr cr fr
    obtain ⟨lr, cr, fr⟩ := ORF.out.blk
    exact done (.tuple #[zeroF, .int .i64 2]) rfl (by simp [zeroF, results, Tryz.results18, go_sem, cr]) ⟨.inr ⟨fun hg => HN.out hg.2.1, rfl⟩, BF.out⟩
theorem decode_any (l : List UInt8) (v : Value) (w : World) (h : Rd w 1 v l.length (bcells l)) : Calls Tryz.prog 18 #[v] w (DecPost l w) := by
  by_cases hl : 26 ≤ l.length ∧ l.length ≤ 1526
  · exact decode_in l v w h hl.1 hl.2
  · have hng : ¬ goodB l := fun hg => hl ⟨hg.1, good_max hg⟩
    have HN := Lib.hid hng
    obtain ⟨v, cp, rfl, h3, h4⟩ := h.form
    clear h hng
    rcases (by omega : l.length < 26 ∨ (26 ≤ l.length ∧ 1526 < l.length)) with h5 | ⟨h5, h6⟩
    all_goals
      clear hl
      go_enter Tryz.func18, Tryz.ntmps18
      go_wp2_with fail
      refine done (.tuple #[zeroF, .int .i64 2]) rfl (by simp [zeroF, results, Tryz.results18, go_sem]) ⟨.inr ⟨HN.out, rfl⟩, ?_⟩
      first
        | exact (Below.refl _ _).alloc (Nat.le_refl _) _
        | exact below10 ((Below.refl _ _).alloc (Nat.le_refl _) _) (Nat.le_refl _) _ _ _ _ _ _ _ _ _ _
        | exact (Below.refl _ _).alloc (Nat.le_refl _) _
set_option maxHeartbeats 4000000 in
set_option maxRecDepth 100000 in
theorem decode_refin (l : List UInt8) (v : Value) (w : World) (h : Rd w 1 v l.length (bcells l)) (h1 : 26 ≤ l.length) (h2 : l.length ≤ 100000) : Calls Tryz.prog 16 #[v] w (DecPost l w) := by
  obtain ⟨b, o, cp, rfl, h3, h4, hb, hc⟩ := h.some (by omega) (by decide)
  have HR := Lib.hid h
  obtain ⟨x0, hx0, E0⟩ : ∃ x : Nat, (x : Int) ≤ 255 ∧ Hid ((l.getD 0 0).toNat = x) := ⟨_, by have := (l.getD 0 0).toNat_lt; omega, Lib.hid rfl⟩
  obtain ⟨x1, hx1, E1⟩ : ∃ x : Nat, (x : Int) ≤ 255 ∧ Hid ((l.getD 1 0).toNat = x) := ⟨_, by have := (l.getD 1 0).toNat_lt; omega, Lib.hid rfl⟩
  obtain ⟨x2, hx2, E2⟩ : ∃ x : Nat, (x : Int) ≤ 255 ∧ Hid ((l.getD 2 0).toNat = x) := ⟨_, by have := (l.getD 2 0).toNat_lt; omega, Lib.hid rfl⟩
  have c0 := hc 0 (.int .u8 x0) (by rw [← E0.out]; simp [bcells, List.getD_eq_getElem?_getD, show 0 < l.length by omega])
  have c1 := hc 1 (.int .u8 x1) (by rw [← E1.out]; simp [bcells, List.getD_eq_getElem?_getD, show 1 < l.length by omega])
  have c2 := hc 2 (.int .u8 x2) (by rw [← E2.out]; simp [bcells, List.getD_eq_getElem?_getD, show 2 < l.length by omega])
  rw [Nat.add_zero] at c0
  clear hc h
  have q0 : (0 : Int) < l.length := by omega
  have q1 : (1 : Int) < l.length := by omega
  have q2 : (2 : Int) < l.length := by omega
  go_enter Tryz.func16, Tryz.ntmps16
  go_wp2_with fail
  obtain ⟨g1, hg1, G1⟩ : ∃ g : Nat, (g : Int) ≤ 18446744073709551615 ∧ Hid (getB ((l.drop 4).take 8) = g) := ⟨_, by have := getB_le l 4 8; simp only [Nat.reducePow] at this; omega, Lib.hid rfl⟩
  obtain ⟨g2, hg2, G2⟩ : ∃ g : Nat, (g : Int) ≤ 4294967295 ∧ Hid (getB ((l.drop 12).take 4) = g) := ⟨_, by have := getB_le l 12 4; simp only [Nat.reducePow] at this; omega, Lib.hid rfl⟩
  obtain ⟨g3, hg3, G3⟩ : ∃ g : Nat, (g : Int) ≤ 4294967295 ∧ Hid (getB ((l.drop 16).take 4) = g) := ⟨_, by have := getB_le l 16 4; simp only [Nat.reducePow] at this; omega, Lib.hid rfl⟩
  obtain ⟨g4, hg4, G4⟩ : ∃ g : Nat, (g : Int) ≤ 65535 ∧ Hid (getB ((l.drop 20).take 2) = g) := ⟨_, by have := getB_le l 20 2; simp only [Nat.reducePow] at this; omega, Lib.hid rfl⟩
  obtain ⟨g5, hg5, G5⟩ : ∃ g : Nat, (g : Int) ≤ 4294967295 ∧ Hid (getB ((l.drop 22).take 4) = g) := ⟨_, by have := getB_le l 22 4; simp only [Nat.reducePow] at this; omega, Lib.hid rfl⟩
  have BR := Lib.hid ((Below.refl w.heap.size w).alloc (Nat.le_refl _) (.cells F0 44))
  have B1 := Lib.hid (BR.out.alloc (by simp) (.cells F0 44))
  have B2 := Lib.hid (BR.out.alloc (by simp) (.cells #[.int .i64 x0, .int .i64 ((x1 : Int) / 16), .int .i64 ((x1 : Int) % 16), .int .i64 x2, .int .u64 g1, .int .i64 g2, .int .i64 g4, .int .i64 g3, .int .i64 g5, .slice none 0 0] 44))
  have ns := not_since hb
  refine wp_stands (M := (Since w.heap.size)) (by kernel_rfl) ?_
  refine st_quiet [true, true, true, true, true, true, true, true, true, true, true, true, true, true, true, true, true, true, true, true, false, true, true, false, false, true, true, false, false, true, true, false, false, true, true, false, false, false, false, false] (by kernel_rfl) ?_
  simp only [pickAt]
  repeat (go_big_quiet_step (fail))
  refine wpQuiet_nil ?_
  refine st_act2 20 38 rfl rfl (by kernel_rfl) ?_ ?_
  refine run_want rfl ?_
  intro A hA
  go_simp
  refine (get_at l b o cp _ (HR.out.below (by first | exact BR.out.drew | exact B1.out.drew)) 4 8 g1 (by omega) (by omega) (by omega) G1.out).mono ?_
  rintro e w' ⟨rfl, rfl⟩
  refine hA _ _ ((Kept.refl _ _)) ?_
  try simp only [Act.put, List.setIfInBounds_toArray, List.set_cons_zero, List.set_cons_succ]
  clear A hA
  refine st_act2 23 38 rfl rfl (by kernel_rfl) ?_ ?_
  refine run_want rfl ?_
  intro A hA
  go_simp
  refine (get_at l b o cp _ (HR.out.below (by first | exact BR.out.drew | exact B1.out.drew)) 12 4 g2 (by omega) (by omega) (by omega) G2.out).mono ?_
  rintro e w' ⟨rfl, rfl⟩
  refine hA _ _ ((Kept.refl _ _)) ?_
  try simp only [Act.put, List.setIfInBounds_toArray, List.set_cons_zero, List.set_cons_succ]
  clear A hA
  refine st_quiet [false, false, false, false, false, false, false, false, false, false, false, false, false, false, false, false, false, false, false, false, false, false, false, false, true, false, false, false, false, false, false, false, false, false, false, false, false, false, false, false] (by kernel_rfl) ?_
  simp only [pickAt]
  repeat (go_big_quiet_step (fail))
  refine wpQuiet_nil ?_
  refine st_act2 27 38 rfl rfl (by kernel_rfl) ?_ ?_
  refine run_want rfl ?_
  intro A hA
  go_simp
  refine (get_at l b o cp _ (HR.out.below (by first | exact BR.out.drew | exact B1.out.drew)) 16 4 g3 (by omega) (by omega) (by omega) G3.out).mono ?_
  rintro e w' ⟨rfl, rfl⟩
  refine hA _ _ ((Kept.refl _ _)) ?_
  try simp only [Act.put, List.setIfInBounds_toArray, List.set_cons_zero, List.set_cons_succ]
  clear A hA
  refine st_quiet [false, false, false, false, false, false, false, false, false, false, false, false, false, false, false, false, false, false, false, false, false, false, false, false, false, false, false, false, true, false, false, false, false, false, false, false, false, false, false, false] (by kernel_rfl) ?_
  simp only [pickAt]
  repeat (go_big_quiet_step (fail))
  refine wpQuiet_nil ?_
  refine st_act2 31 38 rfl rfl (by kernel_rfl) ?_ ?_
  refine run_want rfl ?_
  intro A hA
  go_simp
  refine (get_at l b o cp _ (HR.out.below (by first | exact BR.out.drew | exact B1.out.drew)) 20 2 g4 (by omega) (by omega) (by omega) G4.out).mono ?_
  rintro e w' ⟨rfl, rfl⟩
  refine hA _ _ ((Kept.refl _ _)) ?_
  try simp only [Act.put, List.setIfInBounds_toArray, List.set_cons_zero, List.set_cons_succ]
  clear A hA
  refine st_quiet [false, false, false, false, false, false, false, false, false, false, false, false, false, false, false, false, false, false, false, false, false, false, false, false, false, false, false, false, false, false, false, false, true, false, false, false, false, false, false, false] (by kernel_rfl) ?_
  simp only [pickAt]
  repeat (go_big_quiet_step (fail))
  refine wpQuiet_nil ?_
  refine st_act2 35 38 rfl rfl (by kernel_rfl) ?_ ?_
  refine run_want rfl ?_
  intro A hA
  go_simp
  refine (get_at l b o cp _ (HR.out.below (by first | exact BR.out.drew | exact B1.out.drew)) 22 4 g5 (by omega) (by omega) (by omega) G5.out).mono ?_
  rintro e w' ⟨rfl, rfl⟩
  refine hA _ _ ((Kept.refl _ _)) ?_
  try simp only [Act.put, List.setIfInBounds_toArray, List.set_cons_zero, List.set_cons_succ]
  clear A hA
  refine st_quiet [false, false, false, false, false, false, false, false, false, false, false, false, false, false, false, false, false, false, false, false, false, false, false, false, false, false, false, false, false, false, false, false, false, false, false, false, true, true, false, false] (by kernel_rfl) ?_
  simp only [pickAt]
  repeat (go_big_quiet_step (fail))
  refine wpQuiet_nil ?_
  refine st_act 38 rfl (by kernel_rfl) ?_
  refine run_want rfl ?_
  intro A hA
  go_simp
  refine hA _ _ (((Kept.refl _ _).alloc _)) ?_
  try simp only [Act.put, List.setIfInBounds_toArray, List.set_cons_zero, List.set_cons_succ]
  clear A hA
  refine st_act 39 rfl (by kernel_rfl) ?_
  refine run_want rfl ?_
  intro A hA
  go_simp
  refine hA _ _ ((kept_two B1.out.drew B2.out.drew (by simp))) ?_
  try simp only [Act.put, List.setIfInBounds_toArray, List.set_cons_zero, List.set_cons_succ]
  clear A hA
  refine st_done (by kernel_rfl) ?_
  rotate_left
  refine run_want rfl ?_
  intro A hA
  go_simp
  refine hA _ _ (((Kept.refl _ _).alloc _)) ?_
  try simp only [Act.put, List.setIfInBounds_toArray, List.set_cons_zero, List.set_cons_succ]
  clear A hA
  refine st_act 35 rfl (by kernel_rfl) ?_
  refine run_want rfl ?_
  intro A hA
  go_simp
  refine (get_at l b o cp _ (HR.out.below (by first | exact BR.out.drew | exact B1.out.drew)) 22 4 g5 (by omega) (by omega) (by omega) G5.out).mono ?_
  rintro e w' ⟨rfl, rfl⟩
  refine hA _ _ ((Kept.refl _ _)) ?_
  try simp only [Act.put, List.setIfInBounds_toArray, List.set_cons_zero, List.set_cons_succ]
  clear A hA
  refine st_quiet [false, false, false, false, false, false, false, false, false, false, false, false, false, false, false, false, false, false, false, false, false, false, false, false, false, false, false, false, false, false, false, false, false, false, false, false, true, true, false, false] (by kernel_rfl) ?_
  simp only [pickAt]
  repeat (go_big_quiet_step (fail))
  refine wpQuiet_nil ?_
  refine st_act 39 rfl (by kernel_rfl) ?_
  refine run_want rfl ?_
  intro A hA
  go_simp
  refine hA _ _ ((kept_two B1.out.drew B2.out.drew (by simp))) ?_
  try simp only [Act.put, List.setIfInBounds_toArray, List.set_cons_zero, List.set_cons_succ]
  clear A hA
  refine st_done (by kernel_rfl) ?_
  rotate_left
  refine run_want rfl ?_
  intro A hA
  go_simp
  refine hA _ _ (((Kept.refl _ _).alloc _)) ?_
  try simp only [Act.put, List.setIfInBounds_toArray, List.set_cons_zero, List.set_cons_succ]
  clear A hA
  refine st_act 31 rfl (by kernel_rfl) ?_
  refine run_want rfl ?_
  intro A hA
  go_simp
  refine (get_at l b o cp _ (HR.out.below (by first | exact BR.out.drew | exact B1.out.drew)) 20 2 g4 (by omega) (by omega) (by omega) G4.out).mono ?_
  rintro e w' ⟨rfl, rfl⟩
  refine hA _ _ ((Kept.refl _ _)) ?_
  try simp only [Act.put, List.setIfInBounds_toArray, List.set_cons_zero, List.set_cons_succ]
  clear A hA
  refine st_quiet [false, false, false, false, false, false, false, false, false, false, false, false, false, false, false, false, false, false, false, false, false, false, false, false, false, false, false, false, false, false, false, false, true, false, false, false, false, false, false, false] (by kernel_rfl) ?_
  simp only [pickAt]
  repeat (go_big_quiet_step (fail))
  refine wpQuiet_nil ?_
  refine st_act 35 rfl (by kernel_rfl) ?_
  refine run_want rfl ?_
  intro A hA
  go_simp
  refine (get_at l b o cp _ (HR.out.below (by first | exact BR.out.drew | exact B1.out.drew)) 22 4 g5 (by omega) (by omega) (by omega) G5.out).mono ?_
  rintro e w' ⟨rfl, rfl⟩
  refine hA _ _ ((Kept.refl _ _)) ?_
  try simp only [Act.put, List.setIfInBounds_toArray, List.set_cons_zero, List.set_cons_succ]
  clear A hA
  refine st_quiet [false, false, false, false, false, false, false, false, false, false, false, false, false, false, false, false, false, false, false, false, false, false, false, false, false, false, false, false, false, false, false, false, false, false, false, false, true, true, false, false] (by kernel_rfl) ?_
  simp only [pickAt]
  repeat (go_big_quiet_step (fail))
  refine wpQuiet_nil ?_
  refine st_act 39 rfl (by kernel_rfl) ?_
  refine run_want rfl ?_
  intro A hA
  go_simp
  refine hA _ _ ((kept_two B1.out.drew B2.out.drew (by simp))) ?_
  try simp only [Act.put, List.setIfInBounds_toArray, List.set_cons_zero, List.set_cons_succ]
  clear A hA
  refine st_done (by kernel_rfl) ?_
  rotate_left
  refine run_want rfl ?_
  intro A hA
  go_simp
  refine hA _ _ (((Kept.refl _ _).alloc _)) ?_
  try simp only [Act.put, List.setIfInBounds_toArray, List.set_cons_zero, List.set_cons_succ]
  clear A hA
  refine st_act 27 rfl (by kernel_rfl) ?_
  refine run_want rfl ?_
  intro A hA
  go_simp
  refine (get_at l b o cp _ (HR.out.below (by first | exact BR.out.drew | exact B1.out.drew)) 16 4 g3 (by omega) (by omega) (by omega) G3.out).mono ?_
  rintro e w' ⟨rfl, rfl⟩
  refine hA _ _ ((Kept.refl _ _)) ?_
  try simp only [Act.put, List.setIfInBounds_toArray, List.set_cons_zero, List.set_cons_succ]
  clear A hA
  refine st_quiet [false, false, false, false, false, false, false, false, false, false, false, false, false, false, false, false, false, false, false, false, false, false, false, false, false, false, false, false, true, false, false, false, false, false, false, false, false, false, false, false] (by kernel_rfl) ?_
  simp only [pickAt]
  repeat (go_big_quiet_step (fail))
  refine wpQuiet_nil ?_
  refine st_act 31 rfl (by kernel_rfl) ?_
  refine run_want rfl ?_
  intro A hA
  go_simp
  refine (get_at l b o cp _ (HR.out.below (by first | exact BR.out.drew | exact B1.out.drew)) 20 2 g4 (by omega) (by omega) (by omega) G4.out).mono ?_
  rintro e w' ⟨rfl, rfl⟩
  refine hA _ _ ((Kept.refl _ _)) ?_
  try simp only [Act.put, List.setIfInBounds_toArray, List.set_cons_zero, List.set_cons_succ]
  clear A hA
  refine st_quiet [false, false, false, false, false, false, false, false, false, false, false, false, false, false, false, false, false, false, false, false, false, false, false, false, false, false, false, false, false, false, false, false, true, false, false, false, false, false, false, false] (by kernel_rfl) ?_
  simp only [pickAt]
  repeat (go_big_quiet_step (fail))
  refine wpQuiet_nil ?_
  refine st_act 35 rfl (by kernel_rfl) ?_
  refine run_want rfl ?_
  intro A hA
  go_simp
  refine (get_at l b o cp _ (HR.out.below (by first | exact BR.out.drew | exact B1.out.drew)) 22 4 g5 (by omega) (by omega) (by omega) G5.out).mono ?_
  rintro e w' ⟨rfl, rfl⟩
  refine hA _ _ ((Kept.refl _ _)) ?_
  try simp only [Act.put, List.setIfInBounds_toArray, List.set_cons_zero, List.set_cons_succ]
  clear A hA
  refine st_quiet [false, false, false, false, false, false, false, false, false, false, false, false, false, false, false, false, false, false, false, false, false, false, false, false, false, false, false, false, false, false, false, false, false, false, false, false, true, true, false, false] (by kernel_rfl) ?_
  simp only [pickAt]
  repeat (go_big_quiet_step (fail))
  refine wpQuiet_nil ?_
  refine st_act 39 rfl (by kernel_rfl) ?_
  refine run_want rfl ?_
  intro A hA
  go_simp
  refine hA _ _ ((kept_two B1.out.drew B2.out.drew (by simp))) ?_
  try simp only [Act.put, List.setIfInBounds_toArray, List.set_cons_zero, List.set_cons_succ]
  clear A hA
  refine st_done (by kernel_rfl) ?_
  rotate_left
  refine run_want rfl ?_
  intro A hA
  go_simp
  refine hA _ _ (((Kept.refl _ _).alloc _)) ?_
  try simp only [Act.put, List.setIfInBounds_toArray, List.set_cons_zero, List.set_cons_succ]
  clear A hA
  refine st_act 23 rfl (by kernel_rfl) ?_
  refine run_want rfl ?_
  intro A hA
  go_simp
  refine (get_at l b o cp _ (HR.out.below (by first | exact BR.out.drew | exact B1.out.drew)) 12 4 g2 (by omega) (by omega) (by omega) G2.out).mono ?_
  rintro e w' ⟨rfl, rfl⟩
  refine hA _ _ ((Kept.refl _ _)) ?_
  try simp only [Act.put, List.setIfInBounds_toArray, List.set_cons_zero, List.set_cons_succ]
  clear A hA
  refine st_quiet [false, false, false, false, false, false, false, false, false, false, false, false, false, false, false, false, false, false, false, false, false, false, false, false, true, false, false, false, false, false, false, false, false, false, false, false, false, false, false, false] (by kernel_rfl) ?_
  simp only [pickAt]
  repeat (go_big_quiet_step (fail))
  refine wpQuiet_nil ?_
  refine st_act 27 rfl (by kernel_rfl) ?_
  refine run_want rfl ?_
  intro A hA
  go_simp
  refine (get_at l b o cp _ (HR.out.below (by first | exact BR.out.drew | exact B1.out.drew)) 16 4 g3 (by omega) (by omega) (by omega) G3.out).mono ?_
  rintro e w' ⟨rfl, rfl⟩
  refine hA _ _ ((Kept.refl _ _)) ?_
  try simp only [Act.put, List.setIfInBounds_toArray, List.set_cons_zero, List.set_cons_succ]
  clear A hA
  refine st_quiet [false, false, false, false, false, false, false, false, false, false, false, false, false, false, false, false, false, false, false, false, false, false, false, false, false, false, false, false, true, false, false, false, false, false, false, false, false, false, false, false] (by kernel_rfl) ?_
  simp only [pickAt]
  repeat (go_big_quiet_step (fail))
  refine wpQuiet_nil ?_
  refine st_act 31 rfl (by kernel_rfl) ?_
  refine run_want rfl ?_
  intro A hA
  go_simp
  refine (get_at l b o cp _ (HR.out.below (by first | exact BR.out.drew | exact B1.out.drew)) 20 2 g4 (by omega) (by omega) (by omega) G4.out).mono ?_
  rintro e w' ⟨rfl, rfl⟩
  refine hA _ _ ((Kept.refl _ _)) ?_
  try simp only [Act.put, List.setIfInBounds_toArray, List.set_cons_zero, List.set_cons_succ]
  clear A hA
  refine st_quiet [false, false, false, false, false, false, false, false, false, false, false, false, false, false, false, false, false, false, false, false, false, false, false, false, false, false, false, false, false, false, false, false, true, false, false, false, false, false, false, false] (by kernel_rfl) ?_
  simp only [pickAt]
  repeat (go_big_quiet_step (fail))
  refine wpQuiet_nil ?_
  refine st_act 35 rfl (by kernel_rfl) ?_
  refine run_want rfl ?_
  intro A hA
  go_simp
  refine (get_at l b o cp _ (HR.out.below (by first | exact BR.out.drew | exact B1.out.drew)) 22 4 g5 (by omega) (by omega) (by omega) G5.out).mono ?_
  rintro e w' ⟨rfl, rfl⟩
  refine hA _ _ ((Kept.refl _ _)) ?_
  try simp only [Act.put, List.setIfInBounds_toArray, List.set_cons_zero, List.set_cons_succ]
  clear A hA
  refine st_quiet [false, false, false, false, false, false, false, false, false, false, false, false, false, false, false, false, false, false, false, false, false, false, false, false, false, false, false, false, false, false, false, false, false, false, false, false, true, true, false, false] (by kernel_rfl) ?_
  simp only [pickAt]
  repeat (go_big_quiet_step (fail))
  refine wpQuiet_nil ?_
  refine st_act 39 rfl (by kernel_rfl) ?_
  refine run_want rfl ?_
  intro A hA
  go_simp
  refine hA _ _ ((kept_two B1.out.drew B2.out.drew (by simp))) ?_
  try simp only [Act.put, List.setIfInBounds_toArray, List.set_cons_zero, List.set_cons_succ]
  clear A hA
  refine st_done (by kernel_rfl) ?_
  rotate_left
  refine run_want rfl ?_
  intro A hA
  go_simp
  refine hA _ _ (((Kept.refl _ _).alloc _)) ?_
  try simp only [Act.put, List.setIfInBounds_toArray, List.set_cons_zero, List.set_cons_succ]
  clear A hA
  refine st_act 20 rfl (by kernel_rfl) ?_
  refine run_want rfl ?_
  intro A hA
  go_simp
  refine (get_at l b o cp _ (HR.out.below (by first | exact BR.out.drew | exact B1.out.drew)) 4 8 g1 (by omega) (by omega) (by omega) G1.out).mono ?_
  rintro e w' ⟨rfl, rfl⟩
  refine hA _ _ ((Kept.refl _ _)) ?_
  try simp only [Act.put, List.setIfInBounds_toArray, List.set_cons_zero, List.set_cons_succ]
  clear A hA
  refine st_act 23 rfl (by kernel_rfl) ?_
  refine run_want rfl ?_
  intro A hA
  go_simp
  refine (get_at l b o cp _ (HR.out.below (by first | exact BR.out.drew | exact B1.out.drew)) 12 4 g2 (by omega) (by omega) (by omega) G2.out).mono ?_
  rintro e w' ⟨rfl, rfl⟩
  refine hA _ _ ((Kept.refl _ _)) ?_
  try simp only [Act.put, List.setIfInBounds_toArray, List.set_cons_zero, List.set_cons_succ]
  clear A hA
  refine st_quiet [false, false, false, false, false, false, false, false, false, false, false, false, false, false, false, false, false, false, false, false, false, false, false, false, true, false, false, false, false, false, false, false, false, false, false, false, false, false, false, false] (by kernel_rfl) ?_
  simp only [pickAt]
  repeat (go_big_quiet_step (fail))
  refine wpQuiet_nil ?_
  refine st_act 27 rfl (by kernel_rfl) ?_
  refine run_want rfl ?_
  intro A hA
  go_simp
  refine (get_at l b o cp _ (HR.out.below (by first | exact BR.out.drew | exact B1.out.drew)) 16 4 g3 (by omega) (by omega) (by omega) G3.out).mono ?_
  rintro e w' ⟨rfl, rfl⟩
  refine hA _ _ ((Kept.refl _ _)) ?_
  try simp only [Act.put, List.setIfInBounds_toArray, List.set_cons_zero, List.set_cons_succ]
  clear A hA
  refine st_quiet [false, false, false, false, false, false, false, false, false, false, false, false, false, false, false, false, false, false, false, false, false, false, false, false, false, false, false, false, true, false, false, false, false, false, false, false, false, false, false, false] (by kernel_rfl) ?_
  simp only [pickAt]
  repeat (go_big_quiet_step (fail))
  refine wpQuiet_nil ?_
  refine st_act 31 rfl (by kernel_rfl) ?_
  refine run_want rfl ?_
  intro A hA
  go_simp
  refine (get_at l b o cp _ (HR.out.below (by first | exact BR.out.drew | exact B1.out.drew)) 20 2 g4 (by omega) (by omega) (by omega) G4.out).mono ?_
  rintro e w' ⟨rfl, rfl⟩
  refine hA _ _ ((Kept.refl _ _)) ?_
  try simp only [Act.put, List.setIfInBounds_toArray, List.set_cons_zero, List.set_cons_succ]
  clear A hA
  refine st_quiet [false, false, false, false, false, false, false, false, false, false, false, false, false, false, false, false, false, false, false, false, false, false, false, false, false, false, false, false, false, false, false, false, true, false, false, false, false, false, false, false] (by kernel_rfl) ?_
  simp only [pickAt]
  repeat (go_big_quiet_step (fail))
  refine wpQuiet_nil ?_
  refine st_act 35 rfl (by kernel_rfl) ?_
  refine run_want rfl ?_
  intro A hA
  go_simp
  refine (get_at l b o cp _ (HR.out.below (by first | exact BR.out.drew | exact B1.out.drew)) 22 4 g5 (by omega) (by omega) (by omega) G5.out).mono ?_
  rintro e w' ⟨rfl, rfl⟩
  refine hA _ _ ((Kept.refl _ _)) ?_
  try simp only [Act.put, List.setIfInBounds_toArray, List.set_cons_zero, List.set_cons_succ]
  clear A hA
  refine st_quiet [false, false, false, false, false, false, false, false, false, false, false, false, false, false, false, false, false, false, false, false, false, false, false, false, false, false, false, false, false, false, false, false, false, false, false, false, true, true, false, false] (by kernel_rfl) ?_
  simp only [pickAt]
  repeat (go_big_quiet_step (fail))
  refine wpQuiet_nil ?_
  refine st_act 39 rfl (by kernel_rfl) ?_
  refine run_want rfl ?_
  intro A hA
  go_simp
  refine hA _ _ ((kept_two B1.out.drew B2.out.drew (by simp))) ?_
  try simp only [Act.put, List.setIfInBounds_toArray, List.set_cons_zero, List.set_cons_succ]
  clear A hA
  refine st_done (by kernel_rfl) ?_
  rotate_left
  all_goals
    have OF := Lib.hid (Ob.new (w.alloc (.cells F0 44)) #[.int .i64 x0, .int .i64 ((x1 : Int) / 16), .int .i64 ((x1 : Int) % 16), .int .i64 x2, .int .u64 g1, .int .i64 g2, .int .i64 g4, .int .i64 g3, .int .i64 g5, .slice none 0 0] 44).drew
    have OR := Lib.hid ((Ob.new w F0 44).alloc (.cells #[.int .i64 x0, .int .i64 ((x1 : Int) / 16), .int .i64 ((x1 : Int) % 16), .int .i64 x2, .int .u64 g1, .int .i64 g2, .int .i64 g4, .int .i64 g3, .int .i64 g5, .slice none 0 0] 44)).drew
    have B3 := Lib.hid B2.out.drew
    unfold F0 at OF OR B3
    have s3 : (((w.alloc (.cells #[.int .i64 0, .int .i64 0, .int .i64 0, .int .i64 0, .int .u64 0, .int .i64 0, .int .i64 0, .int .i64 0, .int .i64 0, .slice none 0 0] 44)).alloc (.cells #[.int .i64 x0, .int .i64 ((x1 : Int) / 16), .int .i64 ((x1 : Int) % 16), .int .i64 x2, .int .u64 g1, .int .i64 g2, .int .i64 g4, .int .i64 g3, .int .i64 g5, .slice none 0 0] 44)).drew).heap.size = w.heap.size + 2 := by simp
    rw [World.size_alloc] at OF
    clear B1 B2 BR c0 c1 c2 ns
    generalize ((w.alloc (.cells #[.int .i64 0, .int .i64 0, .int .i64 0, .int .i64 0, .int .u64 0, .int .i64 0, .int .i64 0, .int .i64 0, .int .i64 0, .slice none 0 0] 44)).alloc (.cells #[.int .i64 x0, .int .i64 ((x1 : Int) / 16), .int .i64 ((x1 : Int) % 16), .int .i64 x2, .int .u64 g1, .int .i64 g2, .int .i64 g4, .int .i64 g3, .int .i64 g5, .slice none 0 0] 44)).drew = W3 at *
    have HG := Lib.hid (show okF (rdF l) → encF (rdF l) = l → goodB l from fun a b => ⟨h1, a, b⟩)
    have HFR := Lib.hid (rdF_eq E0.out E1.out E2.out G1.out G2.out G3.out G4.out G5.out)
    obtain ⟨lf, cf, ff⟩ := OF.out.blk
    rcases (by omega : l.length ≤ 26 ∨ 26 < l.length) with hl | hl
    · have R10 : Hid (Rd W3 1 (.slice none 0 0) (l.drop 26).length (bcells (l.drop 26))) := by
        rw [List.drop_of_length_le (by omega)]; exact Lib.hid (Rd.nil _ _)
      have OF10 := Lib.hid OF.out
      have OR10 := Lib.hid OR.out
      have B10 := Lib.hid B3.out
      have s10 : w.heap.size + 2 ≤ W3.heap.size := by omega
      go_wp2_with (go_at_call 13; refine (encode_ref ⟨(x0 : Int), (x1 : Int) / 16, (x1 : Int) % 16, (x2 : Int), (g1 : Int), (g2 : Int), (g4 : Int), (g3 : Int), (g5 : Int), l.drop 26⟩ (.slice none 0 0) (by show (0 : Int) ≤ g1; omega) _ R10.out).mono ?_)
      rw [HFR.out]
      clear lf cf ff OF OR B3 s3
      generalize W3 = w10 at *
      rintro e w11 ⟨⟨hok, v11, rfl, ho11⟩ | ⟨hno, rfl⟩, hb11⟩
      all_goals
        have B11 := Lib.hid (B10.out.trans (hb11.mono (by omega)))
        have OF11 : Hid (Ob w11 (w.heap.size + 1) _ _) := Lib.hid (OF10.out.below hb11)
        have OR11 : Hid (Ob w11 w.heap.size _ _) := Lib.hid (OR10.out.below hb11)
        have R11 := Lib.hid (R10.out.below hb11)
        have s11 := hb11.size
        clear hb11
        obtain ⟨lf, cf, ff⟩ := OF11.out.blk
        obtain ⟨lr, cr, fr⟩ := OR11.out.blk
      · have O11 := Lib.hid (Rd.of_own ho11)
        have HK := Lib.hid hok
        clear hok ho11
        by_cases he : encF (rdF l) = l
        · have HE := Lib.hid he
          have hD1 : (encF (rdF l) == l) = true := by simp [he]
          have hD2 : (encF (rdF l) != l) = false := by simp [he]
          clear he
          go_wp2_with (first | refine wpList_str rfl 33 9 (.tmp 65) rfl Tryz.underlying33 Tryz.underlying5 Tryz.underlying9 O11.out rfl ?_ | refine wpList_str rfl 33 9 (.tmp 67) rfl Tryz.underlying33 Tryz.underlying5 Tryz.underlying9 (HR.out.below B11.out) rfl ?_)
          have ORF : Hid (Ob ((((((((((w11.setCell ⟨w.heap.size, 0, none⟩ (.int .i64 x0)).setCell ⟨w.heap.size, 1, none⟩ (.int .i64 ((x1 : Int) / 16))).setCell ⟨w.heap.size, 2, none⟩ (.int .i64 ((x1 : Int) % 16))).setCell ⟨w.heap.size, 3, none⟩ (.int .i64 x2)).setCell ⟨w.heap.size, 4, none⟩ (.int .u64 g1)).setCell ⟨w.heap.size, 5, none⟩ (.int .i64 g2)).setCell ⟨w.heap.size, 6, none⟩ (.int .i64 g4)).setCell ⟨w.heap.size, 7, none⟩ (.int .i64 g3)).setCell ⟨w.heap.size, 8, none⟩ (.int .i64 g5)).setCell ⟨w.heap.size, 9, none⟩ (.slice none 0 0)) w.heap.size #[.int .i64 x0, .int .i64 ((x1 : Int) / 16), .int .i64 ((x1 : Int) % 16), .int .i64 x2, .int .u64 g1, .int .i64 g2, .int .i64 g4, .int .i64 g3, .int .i64 g5, .slice none 0 0] 44) := Lib.hid (ob10 OR11.out _ _ _ _ _ _ _ _ _ _)
          have BF : Hid (Below w.heap.size w ((((((((((w11.setCell ⟨w.heap.size, 0, none⟩ (.int .i64 x0)).setCell ⟨w.heap.size, 1, none⟩ (.int .i64 ((x1 : Int) / 16))).setCell ⟨w.heap.size, 2, none⟩ (.int .i64 ((x1 : Int) % 16))).setCell ⟨w.heap.size, 3, none⟩ (.int .i64 x2)).setCell ⟨w.heap.size, 4, none⟩ (.int .u64 g1)).setCell ⟨w.heap.size, 5, none⟩ (.int .i64 g2)).setCell ⟨w.heap.size, 6, none⟩ (.int .i64 g4)).setCell ⟨w.heap.size, 7, none⟩ (.int .i64 g3)).setCell ⟨w.heap.size, 8, none⟩ (.int .i64 g5)).setCell ⟨w.heap.size, 9, none⟩ (.slice none 0 0))) := Lib.hid (below10 B11.out (Nat.le_refl _) _ _ _ _ _ _ _ _ _ _)
          have KF : Hid (Kept (Only w.heap.size) w11 ((((((((((w11.setCell ⟨w.heap.size, 0, none⟩ (.int .i64 x0)).setCell ⟨w.heap.size, 1, none⟩ (.int .i64 ((x1 : Int) / 16))).setCell ⟨w.heap.size, 2, none⟩ (.int .i64 ((x1 : Int) % 16))).setCell ⟨w.heap.size, 3, none⟩ (.int .i64 x2)).setCell ⟨w.heap.size, 4, none⟩ (.int .u64 g1)).setCell ⟨w.heap.size, 5, none⟩ (.int .i64 g2)).setCell ⟨w.heap.size, 6, none⟩ (.int .i64 g4)).setCell ⟨w.heap.size, 7, none⟩ (.int .i64 g3)).setCell ⟨w.heap.size, 8, none⟩ (.int .i64 g5)).setCell ⟨w.heap.size, 9, none⟩ (.slice none 0 0))) := Lib.hid (kept10 _ _ _ _ _ _ _ _ _ _ _ _)
          generalize ((((((((((w11.setCell ⟨w.heap.size, 0, none⟩ (.int .i64 x0)).setCell ⟨w.heap.size, 1, none⟩ (.int .i64 ((x1 : Int) / 16))).setCell ⟨w.heap.size, 2, none⟩ (.int .i64 ((x1 : Int) % 16))).setCell ⟨w.heap.size, 3, none⟩ (.int .i64 x2)).setCell ⟨w.heap.size, 4, none⟩ (.int .u64 g1)).setCell ⟨w.heap.size, 5, none⟩ (.int .i64 g2)).setCell ⟨w.heap.size, 6, none⟩ (.int .i64 g4)).setCell ⟨w.heap.size, 7, none⟩ (.int .i64 g3)).setCell ⟨w.heap.size, 8, none⟩ (.int .i64 g5)).setCell ⟨w.heap.size, 9, none⟩ (.slice none 0 0)) = wF at *
          clear lf cf ff lr cr fr
          obtain ⟨lr, cr, fr⟩ := ORF.out.blk
          have HV : (rdF l).val (.slice none 0 0) = .agg #[.int .i64 x0, .int .i64 ((x1 : Int) / 16), .int .i64 ((x1 : Int) % 16), .int .i64 x2, .int .u64 g1, .int .i64 g2, .int .i64 g4, .int .i64 g3, .int .i64 g5, .slice none 0 0] := by rw [← HFR.out]; rfl
          refine done (.tuple #[(rdF l).val (.slice none 0 0), .int .i64 0]) rfl (by rw [HV]; simp [results, Tryz.results16, go_sem, cr]) ⟨.inl ⟨HG.out HK.out HE.out, _, rfl, ?_⟩, BF.out⟩
          exact R11.out.kept KF.out (fun a n c he hm => by cases he)
        · have HE := Lib.hid he
          have hD1 : (encF (rdF l) == l) = false := by simp [he]
          have hD2 : (encF (rdF l) != l) = true := by simp [he]
          clear he
          go_wp2_with (first | refine wpList_str rfl 33 9 (.tmp 65) rfl Tryz.underlying33 Tryz.underlying5 Tryz.underlying9 O11.out rfl ?_ | refine wpList_str rfl 33 9 (.tmp 67) rfl Tryz.underlying33 Tryz.underlying5 Tryz.underlying9 (HR.out.below B11.out) rfl ?_)
          have ORF : Hid (Ob ((((((((((w11.setCell ⟨w.heap.size, 0, none⟩ (.int .i64 0)).setCell ⟨w.heap.size, 1, none⟩ (.int .i64 0)).setCell ⟨w.heap.size, 2, none⟩ (.int .i64 0)).setCell ⟨w.heap.size, 3, none⟩ (.int .i64 0)).setCell ⟨w.heap.size, 4, none⟩ (.int .u64 0)).setCell ⟨w.heap.size, 5, none⟩ (.int .i64 0)).setCell ⟨w.heap.size, 6, none⟩ (.int .i64 0)).setCell ⟨w.heap.size, 7, none⟩ (.int .i64 0)).setCell ⟨w.heap.size, 8, none⟩ (.int .i64 0)).setCell ⟨w.heap.size, 9, none⟩ (.slice none 0 0)) w.heap.size #[.int .i64 0, .int .i64 0, .int .i64 0, .int .i64 0, .int .u64 0, .int .i64 0, .int .i64 0, .int .i64 0, .int .i64 0, .slice none 0 0] 44) := Lib.hid (ob10 OR11.out _ _ _ _ _ _ _ _ _ _)
          have BF : Hid (Below w.heap.size w ((((((((((w11.setCell ⟨w.heap.size, 0, none⟩ (.int .i64 0)).setCell ⟨w.heap.size, 1, none⟩ (.int .i64 0)).setCell ⟨w.heap.size, 2, none⟩ (.int .i64 0)).setCell ⟨w.heap.size, 3, none⟩ (.int .i64 0)).setCell ⟨w.heap.size, 4, none⟩ (.int .u64 0)).setCell ⟨w.heap.size, 5, none⟩ (.int .i64 0)).setCell ⟨w.heap.size, 6, none⟩ (.int .i64 0)).setCell ⟨w.heap.size, 7, none⟩ (.int .i64 0)).setCell ⟨w.heap.size, 8, none⟩ (.int .i64 0)).setCell ⟨w.heap.size, 9, none⟩ (.slice none 0 0))) := Lib.hid (below10 B11.out (Nat.le_refl _) _ _ _ _ _ _ _ _ _ _)
          have KF : Hid (Kept (Only w.heap.size) w11 ((((((((((w11.setCell ⟨w.heap.size, 0, none⟩ (.int .i64 0)).setCell ⟨w.heap.size, 1, none⟩ (.int .i64 0)).setCell ⟨w.heap.size, 2, none⟩ (.int .i64 0)).setCell ⟨w.heap.size, 3, none⟩ (.int .i64 0)).setCell ⟨w.heap.size, 4, none⟩ (.int .u64 0)).setCell ⟨w.heap.size, 5, none⟩ (.int .i64 0)).setCell ⟨w.heap.size, 6, none⟩ (.int .i64 0)).setCell ⟨w.heap.size, 7, none⟩ (.int .i64 0)).setCell ⟨w.heap.size, 8, none⟩ (.int .i64 0)).setCell ⟨w.heap.size, 9, none⟩ (.slice none 0 0))) := Lib.hid (kept10 _ _ _ _ _ _ _ _ _ _ _ _)
          generalize ((((((((((w11.setCell ⟨w.heap.size, 0, none⟩ (.int .i64 0)).setCell ⟨w.heap.size, 1, none⟩ (.int .i64 0)).setCell ⟨w.heap.size, 2, none⟩ (.int .i64 0)).setCell ⟨w.heap.size, 3, none⟩ (.int .i64 0)).setCell ⟨w.heap.size, 4, none⟩ (.int .u64 0)).setCell ⟨w.heap.size, 5, none⟩ (.int .i64 0)).setCell ⟨w.heap.size, 6, none⟩ (.int .i64 0)).setCell ⟨w.heap.size, 7, none⟩ (.int .i64 0)).setCell ⟨w.heap.size, 8, none⟩ (.int .i64 0)).setCell ⟨w.heap.size, 9, none⟩ (.slice none 0 0)) = wF at *
          clear lf cf ff lr cr fr
          obtain ⟨lr, cr, fr⟩ := ORF.out.blk
          exact done (.tuple #[zeroF, .int .i64 2]) rfl (by simp [zeroF, results, Tryz.results16, go_sem, cr]) ⟨.inr ⟨fun hg => HE.out hg.2.2, rfl⟩, BF.out⟩
      · have HN := Lib.hid hno
        clear hno
        go_wp2_with fail
        have ORF : Hid (Ob ((((((((((w11.setCell ⟨w.heap.size, 0, none⟩ (.int .i64 0)).setCell ⟨w.heap.size, 1, none⟩ (.int .i64 0)).setCell ⟨w.heap.size, 2, none⟩ (.int .i64 0)).setCell ⟨w.heap.size, 3, none⟩ (.int .i64 0)).setCell ⟨w.heap.size, 4, none⟩ (.int .u64 0)).setCell ⟨w.heap.size, 5, none⟩ (.int .i64 0)).setCell ⟨w.heap.size, 6, none⟩ (.int .i64 0)).setCell ⟨w.heap.size, 7, none⟩ (.int .i64 0)).setCell ⟨w.heap.size, 8, none⟩ (.int .i64 0)).setCell ⟨w.heap.size, 9, none⟩ (.slice none 0 0)) w.heap.size #[.int .i64 0, .int .i64 0, .int .i64 0, .int .i64 0, .int .u64 0, .int .i64 0, .int .i64 0, .int .i64 0, .int .i64 0, .slice none 0 0] 44) := Lib.hid (ob10 OR11.out _ _ _ _ _ _ _ _ _ _)
        have BF : Hid (Below w.heap.size w ((((((((((w11.setCell ⟨w.heap.size, 0, none⟩ (.int .i64 0)).setCell ⟨w.heap.size, 1, none⟩ (.int .i64 0)).setCell ⟨w.heap.size, 2, none⟩ (.int .i64 0)).setCell ⟨w.heap.size, 3, none⟩ (.int .i64 0)).setCell ⟨w.heap.size, 4, none⟩ (.int .u64 0)).setCell ⟨w.heap.size, 5, none⟩ (.int .i64 0)).setCell ⟨w.heap.size, 6, none⟩ (.int .i64 0)).setCell ⟨w.heap.size, 7, none⟩ (.int .i64 0)).setCell ⟨w.heap.size, 8, none⟩ (.int .i64 0)).setCell ⟨w.heap.size, 9, none⟩ (.slice none 0 0))) := Lib.hid (below10 B11.out (Nat.le_refl _) _ _ _ _ _ _ _ _ _ _)
        have KF : Hid (Kept (Only w.heap.size) w11 ((((((((((w11.setCell ⟨w.heap.size, 0, none⟩ (.int .i64 0)).setCell ⟨w.heap.size, 1, none⟩ (.int .i64 0)).setCell ⟨w.heap.size, 2, none⟩ (.int .i64 0)).setCell ⟨w.heap.size, 3, none⟩ (.int .i64 0)).setCell ⟨w.heap.size, 4, none⟩ (.int .u64 0)).setCell ⟨w.heap.size, 5, none⟩ (.int .i64 0)).setCell ⟨w.heap.size, 6, none⟩ (.int .i64 0)).setCell ⟨w.heap.size, 7, none⟩ (.int .i64 0)).setCell ⟨w.heap.size, 8, none⟩ (.int .i64 0)).setCell ⟨w.heap.size, 9, none⟩ (.slice none 0 0))) := Lib.hid (kept10 _ _ _ _ _ _ _ _ _ _ _ _)
        generalize ((((((((((w11.setCell ⟨w.heap.size, 0, none⟩ (.int .i64 0)).setCell ⟨w.heap.size, 1, none⟩ (.int .i64 0)).setCell ⟨w.heap.size, 2, none⟩ (.int .i64 0)).setCell ⟨w.heap.size, 3, none⟩ (.int .i64 0)).setCell ⟨w.heap.size, 4, none⟩ (.int .u64 0)).setCell ⟨w.heap.size, 5, none⟩ (.int .i64 0)).setCell ⟨w.heap.size, 6, none⟩ (.int .i64 0)).setCell ⟨w.heap.size, 7, none⟩ (.int .i64 0)).setCell ⟨w.heap.size, 8, none⟩ (.int .i64 0)).setCell ⟨w.heap.size, 9, none⟩ (.slice none 0 0)) = wF at *
        clear lf cf ff lr cr fr
        obtain ⟨lr, cr, fr⟩ := ORF.out.blk
        exact done (.tuple #[zeroF, .int .i64 2]) rfl (by simp [zeroF, results, Tryz.results16, go_sem, cr]) ⟨.inr ⟨fun hg => HN.out hg.2.1, rfl⟩, BF.out⟩
    · have HO := World.ownsRow_made (e := 5) (size := 1) W3 #[] 0 (Nat.le_refl _) (by decide) rfl
      have HS := HR.out.below B3.out |>.tail 26 h1
      unfold slAddr at HS
      rw [if_neg (by omega), Option.map_some, addr_add, Nat.mul_one] at HS
      have HO' := Lib.hid HO
      have HS' := Lib.hid HS
      clear HO HS
      rw [s3] at HO'
      go_wp2_with (at_builtin; refine wpList_appS rfl (.tmp 52) (.tmp 54) 33 rfl info_u8 Tryz.underlying33 rfl (by decide) HO'.out (HS'.out.alloc _) rfl rfl (bcells_one _) (by rw [List.length_drop]; omega) (by rw [World.size_alloc]; omega) ?_)
      intro v9 w9 ho9 hg9
      have hb9 : Below W3.heap.size W3 w9 := ((Below.refl _ _).alloc (Nat.le_refl _) (.cells #[] 5)).grown hg9 (by simp) (by intro k hk; simp [Value.ownBlock] at hk; omega)
      have R9 : Hid (Rd w9 1 v9 (l.drop 26).length (bcells (l.drop 26))) := Lib.hid (Rd.of_own (by simpa using ho9))
      have hn9 := own_ge ho9
      have OF9 : Hid (Ob w9 (w.heap.size + 1) _ _) := Lib.hid (OF.out.below hb9)
      have OR9 : Hid (Ob w9 w.heap.size _ _) := Lib.hid (OR.out.below hb9)
      have B9 := Lib.hid (B3.out.trans (hb9.mono (by omega)))
      have s9 : w.heap.size + 2 ≤ w9.heap.size := by have := hb9.size; omega
      have N9 := Lib.hid hn9
      clear hg9 ho9 hb9 hn9 lf cf ff
      obtain ⟨a9, p9, rfl, hp9, hm9⟩ := R9.out.form
      generalize hv9 : (l.drop 26).length = n9 at *
      obtain ⟨lf, cf, ff⟩ := OF9.out.blk
      have OF10 : Hid (Ob (w9.setCell ⟨w.heap.size + 1, 9, none⟩ (.slice a9 n9 p9)) (w.heap.size + 1) #[.int .i64 x0, .int .i64 ((x1 : Int) / 16), .int .i64 ((x1 : Int) % 16), .int .i64 x2, .int .u64 g1, .int .i64 g2, .int .i64 g4, .int .i64 g3, .int .i64 g5, .slice a9 n9 p9] 44) := Lib.hid (OF9.out.set 9 (.slice a9 n9 p9))
      have OR10 := Lib.hid (OR9.out.other ⟨w.heap.size + 1, 9, none⟩ (.slice a9 n9 p9) (by show w.heap.size ≠ w.heap.size + 1; omega))
      have B10 := Lib.hid (below_set (a := ⟨w.heap.size + 1, 9, none⟩) (v := .slice a9 n9 p9) B9.out (by show _ ≤ w.heap.size + 1; omega))
      have s10 : w.heap.size + 2 ≤ (w9.setCell ⟨w.heap.size + 1, 9, none⟩ (.slice a9 n9 p9)).heap.size := by rw [Go.Deep.nblk_setCell]; exact s9
      have R10 := Lib.hid (R9.out.kept ((Kept.refl (Only (w.heap.size + 1)) w9).setO (i := 9) (v := .slice a9 n9 p9)) (fun a n c he hm => by
        have h1 := N9.out a n c he
        have h2 : a.block = w.heap.size + 1 := hm
        omega))
      go_wp2_with (go_at_call 13; refine (encode_ref ⟨(x0 : Int), (x1 : Int) / 16, (x1 : Int) % 16, (x2 : Int), (g1 : Int), (g2 : Int), (g4 : Int), (g3 : Int), (g5 : Int), l.drop 26⟩ (.slice a9 n9 p9) (by show (0 : Int) ≤ g1; omega) _ (by show Rd _ 1 _ (l.drop 26).length _; rw [hv9]; exact R10.out)).mono ?_)
      rw [HFR.out]
      clear lf cf ff
      generalize w9.setCell ⟨w.heap.size + 1, 9, none⟩ (.slice a9 n9 p9) = w10 at *
      rintro e w11 ⟨⟨hok, v11, rfl, ho11⟩ | ⟨hno, rfl⟩, hb11⟩
      all_goals
        have B11 := Lib.hid (B10.out.trans (hb11.mono (by omega)))
        have OF11 : Hid (Ob w11 (w.heap.size + 1) _ _) := Lib.hid (OF10.out.below hb11)
        have OR11 : Hid (Ob w11 w.heap.size _ _) := Lib.hid (OR10.out.below hb11)
        have R11 := Lib.hid (R10.out.below hb11)
        have s11 := hb11.size
        clear hb11
        obtain ⟨lf, cf, ff⟩ := OF11.out.blk
        obtain ⟨lr, cr, fr⟩ := OR11.out.blk
      · have O11 := Lib.hid (Rd.of_own ho11)
        have HK := Lib.hid hok
        clear hok ho11
        by_cases he : encF (rdF l) = l
        · have HE := Lib.hid he
          have hD1 : (encF (rdF l) == l) = true := by simp [he]
          have hD2 : (encF (rdF l) != l) = false := by simp [he]
          clear he
          go_wp2_with (first | refine wpList_str rfl 33 9 (.tmp 65) rfl Tryz.underlying33 Tryz.underlying5 Tryz.underlying9 O11.out rfl ?_ | refine wpList_str rfl 33 9 (.tmp 67) rfl Tryz.underlying33 Tryz.underlying5 Tryz.underlying9 (HR.out.below B11.out) rfl ?_)
          have ORF : Hid (Ob ((((((((((w11.setCell ⟨w.heap.size, 0, none⟩ (.int .i64 x0)).setCell ⟨w.heap.size, 1, none⟩ (.int .i64 ((x1 : Int) / 16))).setCell ⟨w.heap.size, 2, none⟩ (.int .i64 ((x1 : Int) % 16))).setCell ⟨w.heap.size, 3, none⟩ (.int .i64 x2)).setCell ⟨w.heap.size, 4, none⟩ (.int .u64 g1)).setCell ⟨w.heap.size, 5, none⟩ (.int .i64 g2)).setCell ⟨w.heap.size, 6, none⟩ (.int .i64 g4)).setCell ⟨w.heap.size, 7, none⟩ (.int .i64 g3)).setCell ⟨w.heap.size, 8, none⟩ (.int .i64 g5)).setCell ⟨w.heap.size, 9, none⟩ (.slice a9 n9 p9)) w.heap.size #[.int .i64 x0, .int .i64 ((x1 : Int) / 16), .int .i64 ((x1 : Int) % 16), .int .i64 x2, .int .u64 g1, .int .i64 g2, .int .i64 g4, .int .i64 g3, .int .i64 g5, .slice a9 n9 p9] 44) := Lib.hid (ob10 OR11.out _ _ _ _ _ _ _ _ _ _)
          have BF : Hid (Below w.heap.size w ((((((((((w11.setCell ⟨w.heap.size, 0, none⟩ (.int .i64 x0)).setCell ⟨w.heap.size, 1, none⟩ (.int .i64 ((x1 : Int) / 16))).setCell ⟨w.heap.size, 2, none⟩ (.int .i64 ((x1 : Int) % 16))).setCell ⟨w.heap.size, 3, none⟩ (.int .i64 x2)).setCell ⟨w.heap.size, 4, none⟩ (.int .u64 g1)).setCell ⟨w.heap.size, 5, none⟩ (.int .i64 g2)).setCell ⟨w.heap.size, 6, none⟩ (.int .i64 g4)).setCell ⟨w.heap.size, 7, none⟩ (.int .i64 g3)).setCell ⟨w.heap.size, 8, none⟩ (.int .i64 g5)).setCell ⟨w.heap.size, 9, none⟩ (.slice a9 n9 p9))) := Lib.hid (below10 B11.out (Nat.le_refl _) _ _ _ _ _ _ _ _ _ _)
          have KF : Hid (Kept (Only w.heap.size) w11 ((((((((((w11.setCell ⟨w.heap.size, 0, none⟩ (.int .i64 x0)).setCell ⟨w.heap.size, 1, none⟩ (.int .i64 ((x1 : Int) / 16))).setCell ⟨w.heap.size, 2, none⟩ (.int .i64 ((x1 : Int) % 16))).setCell ⟨w.heap.size, 3, none⟩ (.int .i64 x2)).setCell ⟨w.heap.size, 4, none⟩ (.int .u64 g1)).setCell ⟨w.heap.size, 5, none⟩ (.int .i64 g2)).setCell ⟨w.heap.size, 6, none⟩ (.int .i64 g4)).setCell ⟨w.heap.size, 7, none⟩ (.int .i64 g3)).setCell ⟨w.heap.size, 8, none⟩ (.int .i64 g5)).setCell ⟨w.heap.size, 9, none⟩ (.slice a9 n9 p9))) := Lib.hid (kept10 _ _ _ _ _ _ _ _ _ _ _ _)
          generalize ((((((((((w11.setCell ⟨w.heap.size, 0, none⟩ (.int .i64 x0)).setCell ⟨w.heap.size, 1, none⟩ (.int .i64 ((x1 : Int) / 16))).setCell ⟨w.heap.size, 2, none⟩ (.int .i64 ((x1 : Int) % 16))).setCell ⟨w.heap.size, 3, none⟩ (.int .i64 x2)).setCell ⟨w.heap.size, 4, none⟩ (.int .u64 g1)).setCell ⟨w.heap.size, 5, none⟩ (.int .i64 g2)).setCell ⟨w.heap.size, 6, none⟩ (.int .i64 g4)).setCell ⟨w.heap.size, 7, none⟩ (.int .i64 g3)).setCell ⟨w.heap.size, 8, none⟩ (.int .i64 g5)).setCell ⟨w.heap.size, 9, none⟩ (.slice a9 n9 p9)) = wF at *
          clear lf cf ff lr cr fr
          obtain ⟨lr, cr, fr⟩ := ORF.out.blk
          have HV : (rdF l).val (.slice a9 n9 p9) = .agg #[.int .i64 x0, .int .i64 ((x1 : Int) / 16), .int .i64 ((x1 : Int) % 16), .int .i64 x2, .int .u64 g1, .int .i64 g2, .int .i64 g4, .int .i64 g3, .int .i64 g5, .slice a9 n9 p9] := by rw [← HFR.out]; rfl
          refine done (.tuple #[(rdF l).val (.slice a9 n9 p9), .int .i64 0]) rfl (by rw [HV]; simp [results, Tryz.results16, go_sem, cr]) ⟨.inl ⟨HG.out HK.out HE.out, _, rfl, ?_⟩, BF.out⟩
          rw [hv9]
          exact R11.out.kept KF.out (fun a n c he hm => by
            have h1 := N9.out a n c he
            have h2 : a.block = w.heap.size := hm
            omega)
        · have HE := Lib.hid he
          have hD1 : (encF (rdF l) == l) = false := by simp [he]
          have hD2 : (encF (rdF l) != l) = true := by simp [he]
          clear he
          go_wp2_with (first | refine wpList_str rfl 33 9 (.tmp 65) rfl Tryz.underlying33 Tryz.underlying5 Tryz.underlying9 O11.out rfl ?_ | refine wpList_str rfl 33 9 (.tmp 67) rfl Tryz.underlying33 Tryz.underlying5 Tryz.underlying9 (HR.out.below B11.out) rfl ?_)
          have ORF : Hid (Ob ((((((((((w11.setCell ⟨w.heap.size, 0, none⟩ (.int .i64 0)).setCell ⟨w.heap.size, 1, none⟩ (.int .i64 0)).setCell ⟨w.heap.size, 2, none⟩ (.int .i64 0)).setCell ⟨w.heap.size, 3, none⟩ (.int .i64 0)).setCell ⟨w.heap.size, 4, none⟩ (.int .u64 0)).setCell ⟨w.heap.size, 5, none⟩ (.int .i64 0)).setCell ⟨w.heap.size, 6, none⟩ (.int .i64 0)).setCell ⟨w.heap.size, 7, none⟩ (.int .i64 0)).setCell ⟨w.heap.size, 8, none⟩ (.int .i64 0)).setCell ⟨w.heap.size, 9, none⟩ (.slice none 0 0)) w.heap.size #[.int .i64 0, .int .i64 0, .int .i64 0, .int .i64 0, .int .u64 0, .int .i64 0, .int .i64 0, .int .i64 0, .int .i64 0, .slice none 0 0] 44) := Lib.hid (ob10 OR11.out _ _ _ _ _ _ _ _ _ _)
          have BF : Hid (Below w.heap.size w ((((((((((w11.setCell ⟨w.heap.size, 0, none⟩ (.int .i64 0)).setCell ⟨w.heap.size, 1, none⟩ (.int .i64 0)).setCell ⟨w.heap.size, 2, none⟩ (.int .i64 0)).setCell ⟨w.heap.size, 3, none⟩ (.int .i64 0)).setCell ⟨w.heap.size, 4, none⟩ (.int .u64 0)).setCell ⟨w.heap.size, 5, none⟩ (.int .i64 0)).setCell ⟨w.heap.size, 6, none⟩ (.int .i64 0)).setCell ⟨w.heap.size, 7, none⟩ (.int .i64 0)).setCell ⟨w.heap.size, 8, none⟩ (.int .i64 0)).setCell ⟨w.heap.size, 9, none⟩ (.slice none 0 0))) := Lib.hid (below10 B11.out (Nat.le_refl _) _ _ _ _ _ _ _ _ _ _)
          have KF : Hid (Kept (Only w.heap.size) w11 ((((((((((w11.setCell ⟨w.heap.size, 0, none⟩ (.int .i64 0)).setCell ⟨w.heap.size, 1, none⟩ (.int .i64 0)).setCell ⟨w.heap.size, 2, none⟩ (.int .i64 0)).setCell ⟨w.heap.size, 3, none⟩ (.int .i64 0)).setCell ⟨w.heap.size, 4, none⟩ (.int .u64 0)).setCell ⟨w.heap.size, 5, none⟩ (.int .i64 0)).setCell ⟨w.heap.size, 6, none⟩ (.int .i64 0)).setCell ⟨w.heap.size, 7, none⟩ (.int .i64 0)).setCell ⟨w.heap.size, 8, none⟩ (.int .i64 0)).setCell ⟨w.heap.size, 9, none⟩ (.slice none 0 0))) := Lib.hid (kept10 _ _ _ _ _ _ _ _ _ _ _ _)
          generalize ((((((((((w11.setCell ⟨w.heap.size, 0, none⟩ (.int .i64 0)).setCell ⟨w.heap.size, 1, none⟩ (.int .i64 0)).setCell ⟨w.heap.size, 2, none⟩ (.int .i64 0)).setCell ⟨w.heap.size, 3, none⟩ (.int .i64 0)).setCell ⟨w.heap.size, 4, none⟩ (.int .u64 0)).setCell ⟨w.heap.size, 5, none⟩ (.int .i64 0)).setCell ⟨w.heap.size, 6, none⟩ (.int .i64 0)).setCell ⟨w.heap.size, 7, none⟩ (.int .i64 0)).setCell ⟨w.heap.size, 8, none⟩ (.int .i64 0)).setCell ⟨w.heap.size, 9, none⟩ (.slice none 0 0)) = wF at *
          clear lf cf ff lr cr fr
          obtain ⟨lr, cr, fr⟩ := ORF.out.blk
          exact done (.tuple #[zeroF, .int .i64 2]) rfl (by simp [zeroF, results, Tryz.results16, go_sem, cr]) ⟨.inr ⟨fun hg => HE.out hg.2.2, rfl⟩, BF.out⟩
      · have HN := Lib.hid hno
        clear hno
        go_wp2_with fail
        have ORF : Hid (Ob ((((((((((w11.setCell ⟨w.heap.size, 0, none⟩ (.int .i64 0)).setCell ⟨w.heap.size, 1, none⟩ (.int .i64 0)).setCell ⟨w.heap.size, 2, none⟩ (.int .i64 0)).setCell ⟨w.heap.size, 3, none⟩ (.int .i64 0)).setCell ⟨w.heap.size, 4, none⟩ (.int .u64 0)).setCell ⟨w.heap.size, 5, none⟩ (.int .i64 0)).setCell ⟨w.heap.size, 6, none⟩ (.int .i64 0)).setCell ⟨w.heap.size, 7, none⟩ (.int .i64 0)).setCell ⟨w.heap.size, 8, none⟩ (.int .i64 0)).setCell ⟨w.heap.size, 9, none⟩ (.slice none 0 0)) w.heap.size #[.int .i64 0, .int .i64 0, .int .i64 0, .int .i64 0, .int .u64 0, .int .i64 0, .int .i64 0, .int .i64 0, .int .i64 0, .slice none 0 0] 44) := Lib.hid (ob10 OR11.out _ _ _ _ _ _ _ _ _ _)
        have BF : Hid (Below w.heap.size w ((((((((((w11.setCell ⟨w.heap.size, 0, none⟩ (.int .i64 0)).setCell ⟨w.heap.size, 1, none⟩ (.int .i64 0)).setCell ⟨w.heap.size, 2, none⟩ (.int .i64 0)).setCell ⟨w.heap.size, 3, none⟩ (.int .i64 0)).setCell ⟨w.heap.size, 4, none⟩ (.int .u64 0)).setCell ⟨w.heap.size, 5, none⟩ (.int .i64 0)).setCell ⟨w.heap.size, 6, none⟩ (.int .i64 0)).setCell ⟨w.heap.size, 7, none⟩ (.int .i64 0)).setCell ⟨w.heap.size, 8, none⟩ (.int .i64 0)).setCell ⟨w.heap.size, 9, none⟩ (.slice none 0 0))) := Lib.hid (below10 B11.out (Nat.le_refl _) _ _ _ _ _ _ _ _ _ _)
        have KF : Hid (Kept (Only w.heap.size) w11 ((((((((((w11.setCell ⟨w.heap.size, 0, none⟩ (.int .i64 0)).setCell ⟨w.heap.size, 1, none⟩ (.int .i64 0)).setCell ⟨w.heap.size, 2, none⟩ (.int .i64 0)).setCell ⟨w.heap.size, 3, none⟩ (.int .i64 0)).setCell ⟨w.heap.size, 4, none⟩ (.int .u64 0)).setCell ⟨w.heap.size, 5, none⟩ (.int .i64 0)).setCell ⟨w.heap.size, 6, none⟩ (.int .i64 0)).setCell ⟨w.heap.size, 7, none⟩ (.int .i64 0)).setCell ⟨w.heap.size, 8, none⟩ (.int .i64 0)).setCell ⟨w.heap.size, 9, none⟩ (.slice none 0 0))) := Lib.hid (kept10 _ _ _ _ _ _ _ _ _ _ _ _)
        generalize ((((((((((w11.setCell ⟨w.heap.size, 0, none⟩ (.int .i64 0)).setCell ⟨w.heap.size, 1, none⟩ (.int .i64 0)).setCell ⟨w.heap.size, 2, none⟩ (.int .i64 0)).setCell ⟨w.heap.size, 3, none⟩ (.int .i64 0)).setCell ⟨w.heap.size, 4, none⟩ (.int .u64 0)).setCell ⟨w.heap.size, 5, none⟩ (.int .i64 0)).setCell ⟨w.heap.size, 6, none⟩ (.int .i64 0)).setCell ⟨w.heap.size, 7, none⟩ (.int .i64 0)).setCell ⟨w.heap.size, 8, none⟩ (.int .i64 0)).setCell ⟨w.heap.size, 9, none⟩ (.slice none 0 0)) = wF at *
        clear lf cf ff lr cr fr
        obtain ⟨lr, cr, fr⟩ := ORF.out.blk
        exact done (.tuple #[zeroF, .int .i64 2]) rfl (by simp [zeroF, results, Tryz.results16, go_sem, cr]) ⟨.inr ⟨fun hg => HN.out hg.2.1, rfl⟩, BF.out⟩
theorem decode_ref (l : List UInt8) (v : Value) (w : World) (h : Rd w 1 v l.length (bcells l)) (h2 : l.length ≤ 100000) : Calls Tryz.prog 16 #[v] w (DecPost l w) := by
  by_cases hl : 26 ≤ l.length
  · exact decode_refin l v w h hl h2
  · have hng : ¬ goodB l := fun hg => hl hg.1
    have HN := Lib.hid hng
    obtain ⟨v, cp, rfl, h3, h4⟩ := h.form
    have h5 : l.length < 26 := by omega
    clear h hng hl
    go_enter Tryz.func16, Tryz.ntmps16
    go_wp2_with fail
    exact done (.tuple #[zeroF, .int .i64 2]) rfl (by simp [zeroF, results, Tryz.results16, go_sem]) ⟨.inr ⟨HN.out, rfl⟩, (Below.refl _ _).alloc (Nat.le_refl _) _⟩
end Go.Proofs.YtajhndakkaniaaaGreatDoor
