/- More contracts of queue (chapter 12). -/
import Derived.Test.YtoihhidoafgoaaaPoQ
namespace Go.Proofs.Ytoihhidoafgoaaa
open Go.RowKit

def NewQ (room : Int) (w : World) (e : Ending) (w' : World) : Prop := e = .returned (.tuple #[.pointer (some ⟨w.heap.size, 0, none⟩), .int .i64 0]) ∧ Qu w.heap.size w.heap.size (fun _ => .slice none 0 0) room 0 (fun _ => []) w' ∧ Below w.heap.size w w'
theorem qnew_yes (room : Int) (w : World) (h : 0 ≤ room ∧ room ≤ 1099511627776) : Calls Try.prog 61 #[.int .i64 room] w (NewQ room w) := by
  obtain ⟨h1, h2⟩ := h
  go_enter Try.func61, Try.ntmps61
  go_wp2_with fail
  go_ret2
  refine ⟨rfl, ⟨Ob.new _ _ _, fun i _ => World.ownsRow_nil _ _ _ _, fun i j g _ _ h => (by cases h), fun i _ => (by intro h; cases h), Nat.le_refl _⟩, (Below.refl _ _).alloc (Nat.le_refl _) _⟩
theorem qnew_no (room : Int) (w : World) (h : ¬ (0 ≤ room ∧ room ≤ 1099511627776)) : Calls Try.prog 61 #[.int .i64 room] w fun e w' => e = .returned (.tuple #[.pointer none, .int .i64 1]) ∧ w = w' := by
  have hc : room < 0 ∨ 1099511627776 < room := by omega
  clear h
  rcases hc with h | h
  all_goals
    go_enter Try.func61, Try.ntmps61
    go_wp2_with fail
    all_goals (go_ret2; exact ⟨rfl, rfl⟩)
def PopPost (b B0 : Nat) (V : Nat → Value) (room u : Int) (L : Nat → List It) (w : World) (e : Ending) (w' : World) : Prop :=
  (e = .returned (.tuple #[noBox, .int .i64 0, .bool false]) ∧ (∀ i, i < 8 → L i = []) ∧ Below w.heap.size w w') ∨
    ∃ (p : Nat) (x : It) (r : List It) (V' : Nat → Value), p < 8 ∧ L p = x :: r ∧ (∀ i, p < i → i < 8 → L i = []) ∧ e = .returned (.tuple #[boxV x, .int .i64 p, .bool true]) ∧ Qu b B0 V' room (u - x.sz) (upd L p r) w' ∧ Kept (QM b V) w w' ∧ Fresh w V V'
set_option maxRecDepth 100000 in
set_option maxHeartbeats 4000000 in
theorem pop_any (b B0 : Nat) (V : Nat → Value) (room u : Int) (L : Nat → List It) (w : World) (h : Qu b B0 V room u L w) (hu : ∀ p x r, p < 8 → L p = x :: r → x.sz ≤ u) (hu2 : u ≤ 1099511627776) : Calls Try.prog 71 #[.pointer (some ⟨b, 0, none⟩)] w (PopPost b B0 V room u L w) := by
  have HQ := Lib.hid h
  have HU := Lib.hid hu
  clear h hu
  go_enter Try.func71, Try.ntmps71
  go_wp2_with fail
  refine (top_any _ _ _ _ _ _ _ (HQ.out.alloc _)).mono ?_
  rintro e w1 ⟨t, rfl, ht, rfl⟩
  rcases ht with ⟨rfl, hn⟩ | ⟨p, rfl, hp, hne, habove⟩
  · have HN := Lib.hid hn
    clear hn
    go_wp2_with fail
    refine done (.tuple #[noBox, .int .i64 0, .bool false]) rfl (by simp [noBox, results, Try.results71, go_sem]) (.inl ⟨rfl, HN.out, (Below.refl _ _).alloc (Nat.le_refl _) _⟩)
  · obtain ⟨x, r, hl⟩ : ∃ x r, L p = x :: r := List.exists_cons_of_ne_nil hne
    have h0 : 0 < (L p).length := by rw [hl]; simp
    have hx : (L p)[0] = x := by simp [hl]
    have hr : (L p).take 0 ++ (L p).drop (0 + 1) = r := by rw [hl]; rfl
    have hxu := HU.out p x r hp hl
    have OV := Lib.hid (Ob.new w #[.int .i64 0, .int .i64 0, .int .i64 0, .int .i64 0, .int .u64 0, .int .i64 0, .int .i64 0, .int .i64 0, .int .i64 0, .slice none 0 0, .int .i64 0] 81)
    have QA := Lib.hid (HQ.out.alloc (.cells #[.int .i64 0, .int .i64 0, .int .i64 0, .int .i64 0, .int .u64 0, .int .i64 0, .int .i64 0, .int .i64 0, .int .i64 0, .slice none 0 0, .int .i64 0] 81))
    have KA : Hid (Kept (QM b V) w (w.alloc (.cells #[.int .i64 0, .int .i64 0, .int .i64 0, .int .i64 0, .int .u64 0, .int .i64 0, .int .i64 0, .int .i64 0, .int .i64 0, .slice none 0 0, .int .i64 0] 81))) := Lib.hid ((Kept.refl _ _).alloc _)
    have HL := Lib.hid hl
    have HA := Lib.hid habove
    have HX := Lib.hid hx
    have HR := Lib.hid hr
    have lb := HQ.out.ob.lt
    clear hl habove hne hx hr
    go_wp2_with fail
    generalize w.alloc (.cells #[.int .i64 0, .int .i64 0, .int .i64 0, .int .i64 0, .int .u64 0, .int .i64 0, .int .i64 0, .int .i64 0, .int .i64 0, .slice none 0 0, .int .i64 0] 81) = Y at *
    refine (remove_yes b B0 V room u L p 0 Y QA.out hp h0 (by rw [HX.out]; exact ⟨hxu, hu2⟩)).mono ?_
    rw [HX.out]
    rintro e w2 ⟨rfl, V', hq2, hk2, hf2⟩
    rw [HR.out] at hq2
    have hnm : ¬ QM b V w.heap.size := fun hh => by
      rcases hh with hh | ⟨i, hi, hh⟩
      · omega
      · have := ((HQ.out.own i hi).lt _ hh).2; omega
    have OV2 := Lib.hid (OV.out.kept hk2 hnm)
    have hnm2 : ∀ y, QM b V' y → ¬ Only w.heap.size y := fun y hy hh => by
      have hyw : y = w.heap.size := hh
      subst hyw
      rcases hy with hy | ⟨i, hi, hy⟩
      · omega
      · rcases hf2 i hi with h3 | h3
        · rw [h3] at hy; exact hnm (.inr ⟨i, hi, hy⟩)
        · have h4 := h3 _ hy
          have h5 := OV.out.lt
          omega
    have HQ2 := Lib.hid hq2
    have HK2 := Lib.hid (KA.out.trans hk2)
    have HF2 := Lib.hid hf2
    have HM2 := Lib.hid hnm2
    clear hq2 hk2 hf2 hnm hnm2
    obtain ⟨lv, cv, fv⟩ := OV2.out.blk
    unfold boxV
    go_wp2_with fail
    have hw : ((((((((((((((((((((((w2.setCell ⟨w.heap.size, 0, none⟩ (.int .i64 x.kind)).setCell ⟨w.heap.size, 1, none⟩ (.int .i64 x.src)).setCell ⟨w.heap.size, 2, none⟩ (.int .i64 x.dst)).setCell ⟨w.heap.size, 3, none⟩ (.int .i64 x.prio)).setCell ⟨w.heap.size, 4, none⟩ (.int .u64 x.msg)).setCell ⟨w.heap.size, 5, none⟩ (.int .i64 x.off)).setCell ⟨w.heap.size, 6, none⟩ (.int .i64 x.len)).setCell ⟨w.heap.size, 7, none⟩ (.int .i64 x.total)).setCell ⟨w.heap.size, 8, none⟩ (.int .i64 x.num)).setCell ⟨w.heap.size, 9, none⟩ (.slice x.da x.dn x.dc)).setCell ⟨w.heap.size, 10, none⟩ (.int .i64 x.path)).setCell ⟨w.heap.size, 0, none⟩ (.int .i64 x.kind)).setCell ⟨w.heap.size, 1, none⟩ (.int .i64 x.src)).setCell ⟨w.heap.size, 2, none⟩ (.int .i64 x.dst)).setCell ⟨w.heap.size, 3, none⟩ (.int .i64 x.prio)).setCell ⟨w.heap.size, 4, none⟩ (.int .u64 x.msg)).setCell ⟨w.heap.size, 5, none⟩ (.int .i64 x.off)).setCell ⟨w.heap.size, 6, none⟩ (.int .i64 x.len)).setCell ⟨w.heap.size, 7, none⟩ (.int .i64 x.total)).setCell ⟨w.heap.size, 8, none⟩ (.int .i64 x.num)).setCell ⟨w.heap.size, 9, none⟩ (.slice x.da x.dn x.dc)).setCell ⟨w.heap.size, 10, none⟩ (.int .i64 x.path)) = ((w2.setCells w.heap.size 0 [.int .i64 x.kind, .int .i64 x.src, .int .i64 x.dst, .int .i64 x.prio, .int .u64 x.msg, .int .i64 x.off, .int .i64 x.len, .int .i64 x.total, .int .i64 x.num, .slice x.da x.dn x.dc, .int .i64 x.path]).setCells w.heap.size 0 [.int .i64 x.kind, .int .i64 x.src, .int .i64 x.dst, .int .i64 x.prio, .int .u64 x.msg, .int .i64 x.off, .int .i64 x.len, .int .i64 x.total, .int .i64 x.num, .slice x.da x.dn x.dc, .int .i64 x.path]) := rfl
    rw [hw]
    clear hw
    have OF := Lib.hid ((OV2.out.sets [.int .i64 x.kind, .int .i64 x.src, .int .i64 x.dst, .int .i64 x.prio, .int .u64 x.msg, .int .i64 x.off, .int .i64 x.len, .int .i64 x.total, .int .i64 x.num, .slice x.da x.dn x.dc, .int .i64 x.path] rfl).sets [.int .i64 x.kind, .int .i64 x.src, .int .i64 x.dst, .int .i64 x.prio, .int .u64 x.msg, .int .i64 x.off, .int .i64 x.len, .int .i64 x.total, .int .i64 x.num, .slice x.da x.dn x.dc, .int .i64 x.path] rfl)
    have KF : Hid (Kept (Only w.heap.size) w2 ((w2.setCells w.heap.size 0 [.int .i64 x.kind, .int .i64 x.src, .int .i64 x.dst, .int .i64 x.prio, .int .u64 x.msg, .int .i64 x.off, .int .i64 x.len, .int .i64 x.total, .int .i64 x.num, .slice x.da x.dn x.dc, .int .i64 x.path]).setCells w.heap.size 0 [.int .i64 x.kind, .int .i64 x.src, .int .i64 x.dst, .int .i64 x.prio, .int .u64 x.msg, .int .i64 x.off, .int .i64 x.len, .int .i64 x.total, .int .i64 x.num, .slice x.da x.dn x.dc, .int .i64 x.path])) := Lib.hid (((Kept.refl (Only w.heap.size) w2).setsO (X := w.heap.size) (show w.heap.size = w.heap.size from rfl) _).setsO (X := w.heap.size) (show w.heap.size = w.heap.size from rfl) _)
    have KW : Hid (Kept (QM b V) w ((w2.setCells w.heap.size 0 [.int .i64 x.kind, .int .i64 x.src, .int .i64 x.dst, .int .i64 x.prio, .int .u64 x.msg, .int .i64 x.off, .int .i64 x.len, .int .i64 x.total, .int .i64 x.num, .slice x.da x.dn x.dc, .int .i64 x.path]).setCells w.heap.size 0 [.int .i64 x.kind, .int .i64 x.src, .int .i64 x.dst, .int .i64 x.prio, .int .u64 x.msg, .int .i64 x.off, .int .i64 x.len, .int .i64 x.total, .int .i64 x.num, .slice x.da x.dn x.dc, .int .i64 x.path])) := Lib.hid ((HK2.out.setsN (X := w.heap.size) (Nat.le_refl _) _).setsN (X := w.heap.size) (Nat.le_refl _) _)
    clear lv cv fv
    generalize ((w2.setCells w.heap.size 0 [.int .i64 x.kind, .int .i64 x.src, .int .i64 x.dst, .int .i64 x.prio, .int .u64 x.msg, .int .i64 x.off, .int .i64 x.len, .int .i64 x.total, .int .i64 x.num, .slice x.da x.dn x.dc, .int .i64 x.path]).setCells w.heap.size 0 [.int .i64 x.kind, .int .i64 x.src, .int .i64 x.dst, .int .i64 x.prio, .int .u64 x.msg, .int .i64 x.off, .int .i64 x.len, .int .i64 x.total, .int .i64 x.num, .slice x.da x.dn x.dc, .int .i64 x.path]) = F at *
    obtain ⟨lf, cf, ff⟩ := OF.out.blk
    have cf0 : F.cell? ⟨w.heap.size, 0, none⟩ = some (.int .i64 x.kind) := cf 0
    have cf1 : F.cell? ⟨w.heap.size, 1, none⟩ = some (.int .i64 x.src) := cf 1
    have cf2 : F.cell? ⟨w.heap.size, 2, none⟩ = some (.int .i64 x.dst) := cf 2
    have cf3 : F.cell? ⟨w.heap.size, 3, none⟩ = some (.int .i64 x.prio) := cf 3
    have cf4 : F.cell? ⟨w.heap.size, 4, none⟩ = some (.int .u64 x.msg) := cf 4
    have cf5 : F.cell? ⟨w.heap.size, 5, none⟩ = some (.int .i64 x.off) := cf 5
    have cf6 : F.cell? ⟨w.heap.size, 6, none⟩ = some (.int .i64 x.len) := cf 6
    have cf7 : F.cell? ⟨w.heap.size, 7, none⟩ = some (.int .i64 x.total) := cf 7
    have cf8 : F.cell? ⟨w.heap.size, 8, none⟩ = some (.int .i64 x.num) := cf 8
    have cf9 : F.cell? ⟨w.heap.size, 9, none⟩ = some (.slice x.da x.dn x.dc) := cf 9
    have cf10 : F.cell? ⟨w.heap.size, 10, none⟩ = some (.int .i64 x.path) := cf 10
    clear cf
    refine done (.tuple #[boxV x, .int .i64 p, .bool true]) rfl (by simp [boxV, results, Try.results71, go_sem, cf0, cf1, cf2, cf3, cf4, cf5, cf6, cf7, cf8, cf9, cf10]) (.inr ⟨p, x, r, V', hp, HL.out, HA.out, rfl, HQ2.out.kept KF.out HM2.out, KW.out, fun i hi => ?_⟩)
    rcases HF2.out i hi with h3 | h3
    · exact .inl h3
    · exact .inr fun y hy => Nat.le_trans KA.out.size (h3 y hy)
theorem ix0 (x0 x1 x2 x3 x4 x5 x6 x7 : Value) (w : World) : (Instr.index 136 (.agg #[x0, x1, x2, x3, x4, x5, x6, x7]) (.int .i64 0)).run Try.prog w = .ok x0 w := by kernel_rfl
theorem ix1 (x0 x1 x2 x3 x4 x5 x6 x7 : Value) (w : World) : (Instr.index 136 (.agg #[x0, x1, x2, x3, x4, x5, x6, x7]) (.int .i64 1)).run Try.prog w = .ok x1 w := by kernel_rfl
theorem ix2 (x0 x1 x2 x3 x4 x5 x6 x7 : Value) (w : World) : (Instr.index 136 (.agg #[x0, x1, x2, x3, x4, x5, x6, x7]) (.int .i64 2)).run Try.prog w = .ok x2 w := by kernel_rfl
theorem ix3 (x0 x1 x2 x3 x4 x5 x6 x7 : Value) (w : World) : (Instr.index 136 (.agg #[x0, x1, x2, x3, x4, x5, x6, x7]) (.int .i64 3)).run Try.prog w = .ok x3 w := by kernel_rfl
theorem ix4 (x0 x1 x2 x3 x4 x5 x6 x7 : Value) (w : World) : (Instr.index 136 (.agg #[x0, x1, x2, x3, x4, x5, x6, x7]) (.int .i64 4)).run Try.prog w = .ok x4 w := by kernel_rfl
theorem ix5 (x0 x1 x2 x3 x4 x5 x6 x7 : Value) (w : World) : (Instr.index 136 (.agg #[x0, x1, x2, x3, x4, x5, x6, x7]) (.int .i64 5)).run Try.prog w = .ok x5 w := by kernel_rfl
theorem ix6 (x0 x1 x2 x3 x4 x5 x6 x7 : Value) (w : World) : (Instr.index 136 (.agg #[x0, x1, x2, x3, x4, x5, x6, x7]) (.int .i64 6)).run Try.prog w = .ok x6 w := by kernel_rfl
theorem ix7 (x0 x1 x2 x3 x4 x5 x6 x7 : Value) (w : World) : (Instr.index 136 (.agg #[x0, x1, x2, x3, x4, x5, x6, x7]) (.int .i64 7)).run Try.prog w = .ok x7 w := by kernel_rfl
def lenTo (L : Nat → List It) : Nat → Nat
  | 0 => 0
  | k + 1 => lenTo L k + (L k).length
theorem lenTo_le (L : Nat → List It) (N : Nat) (h : ∀ i, i < 8 → (L i).length ≤ N) : ∀ k, k ≤ 8 → lenTo L k ≤ k * N
  | 0, _ => by simp [lenTo]
  | k + 1, hk => by
    have h1 := lenTo_le L N h k (by omega)
    have h2 := h k (by omega)
    rw [lenTo, Nat.succ_mul]; omega
set_option maxHeartbeats 1000000 in
theorem len_any (b B0 : Nat) (V : Nat → Value) (room u : Int) (L : Nat → List It) (w : World) (h : Qu b B0 V room u L w) (hl : ∀ i, i < 8 → (L i).length ≤ 1000000) : Calls Try.prog 75 #[.pointer (some ⟨b, 0, none⟩)] w fun e w' => e = .returned (.int .i64 (lenTo L 8)) ∧ w = w' := by
  obtain ⟨lb, cb, fb⟩ := h.ob.blk
  obtain ⟨a0, c0, v0, _, m0, _⟩ := h.lineAt 0 (by omega)
  obtain ⟨a1, c1, v1, _, m1, _⟩ := h.lineAt 1 (by omega)
  obtain ⟨a2, c2, v2, _, m2, _⟩ := h.lineAt 2 (by omega)
  obtain ⟨a3, c3, v3, _, m3, _⟩ := h.lineAt 3 (by omega)
  obtain ⟨a4, c4, v4, _, m4, _⟩ := h.lineAt 4 (by omega)
  obtain ⟨a5, c5, v5, _, m5, _⟩ := h.lineAt 5 (by omega)
  obtain ⟨a6, c6, v6, _, m6, _⟩ := h.lineAt 6 (by omega)
  obtain ⟨a7, c7, v7, _, m7, _⟩ := h.lineAt 7 (by omega)
  unfold qcells at cb
  rw [v0, v1, v2, v3, v4, v5, v6, v7] at cb
  clear v0 v1 v2 v3 v4 v5 v6 v7 h
  have l0 := hl 0 (by omega)
  have l1 := hl 1 (by omega)
  have l2 := hl 2 (by omega)
  have l3 := hl 3 (by omega)
  have l4 := hl 4 (by omega)
  have l5 := hl 5 (by omega)
  have l6 := hl 6 (by omega)
  have l7 := hl 7 (by omega)
  have HLE := Lib.hid (lenTo_le L 1000000 hl)
  clear hl
  go_enter Try.func75, Try.ntmps75
  go_wp2_with fail
  clear cb
  go_loop [2, 11] (fun n i => ∃ k : Nat, k ≤ 8 ∧ i = .int .i64 k ∧ n = .int .i64 (lenTo L k)) (fun _ i => 8 - (intOf i).toNat)
  case atStart => exact ⟨0, by omega, rfl, rfl⟩
  case round =>
    obtain ⟨k, hk, rfl, rfl⟩ := hrel
    have hle := HLE.out k hk
    by_cases h8 : k < 8
    · rcases eight h8 with rfl | rfl | rfl | rfl | rfl | rfl | rfl | rfl
      · have j0 := fun w => ix0 (.slice a0 (L 0).length c0) (.slice a1 (L 1).length c1) (.slice a2 (L 2).length c2) (.slice a3 (L 3).length c3) (.slice a4 (L 4).length c4) (.slice a5 (L 5).length c5) (.slice a6 (L 6).length c6) (.slice a7 (L 7).length c7) w
        go_wp2_with fail
        go_round
        case rel => exact ⟨1, by omega, rfl, by rw [show lenTo L 1 = lenTo L 0 + (L 0).length from rfl]; go_num⟩
        case measure => simp [intOf]
      · have j1 := fun w => ix1 (.slice a0 (L 0).length c0) (.slice a1 (L 1).length c1) (.slice a2 (L 2).length c2) (.slice a3 (L 3).length c3) (.slice a4 (L 4).length c4) (.slice a5 (L 5).length c5) (.slice a6 (L 6).length c6) (.slice a7 (L 7).length c7) w
        go_wp2_with fail
        go_round
        case rel => exact ⟨2, by omega, rfl, by rw [show lenTo L 2 = lenTo L 1 + (L 1).length from rfl]; go_num⟩
        case measure => simp [intOf]
      · have j2 := fun w => ix2 (.slice a0 (L 0).length c0) (.slice a1 (L 1).length c1) (.slice a2 (L 2).length c2) (.slice a3 (L 3).length c3) (.slice a4 (L 4).length c4) (.slice a5 (L 5).length c5) (.slice a6 (L 6).length c6) (.slice a7 (L 7).length c7) w
        go_wp2_with fail
        go_round
        case rel => exact ⟨3, by omega, rfl, by rw [show lenTo L 3 = lenTo L 2 + (L 2).length from rfl]; go_num⟩
        case measure => simp [intOf]
      · have j3 := fun w => ix3 (.slice a0 (L 0).length c0) (.slice a1 (L 1).length c1) (.slice a2 (L 2).length c2) (.slice a3 (L 3).length c3) (.slice a4 (L 4).length c4) (.slice a5 (L 5).length c5) (.slice a6 (L 6).length c6) (.slice a7 (L 7).length c7) w
        go_wp2_with fail
        go_round
        case rel => exact ⟨4, by omega, rfl, by rw [show lenTo L 4 = lenTo L 3 + (L 3).length from rfl]; go_num⟩
        case measure => simp [intOf]
      · have j4 := fun w => ix4 (.slice a0 (L 0).length c0) (.slice a1 (L 1).length c1) (.slice a2 (L 2).length c2) (.slice a3 (L 3).length c3) (.slice a4 (L 4).length c4) (.slice a5 (L 5).length c5) (.slice a6 (L 6).length c6) (.slice a7 (L 7).length c7) w
        go_wp2_with fail
        go_round
        case rel => exact ⟨5, by omega, rfl, by rw [show lenTo L 5 = lenTo L 4 + (L 4).length from rfl]; go_num⟩
        case measure => simp [intOf]
      · have j5 := fun w => ix5 (.slice a0 (L 0).length c0) (.slice a1 (L 1).length c1) (.slice a2 (L 2).length c2) (.slice a3 (L 3).length c3) (.slice a4 (L 4).length c4) (.slice a5 (L 5).length c5) (.slice a6 (L 6).length c6) (.slice a7 (L 7).length c7) w
        go_wp2_with fail
        go_round
        case rel => exact ⟨6, by omega, rfl, by rw [show lenTo L 6 = lenTo L 5 + (L 5).length from rfl]; go_num⟩
        case measure => simp [intOf]
      · have j6 := fun w => ix6 (.slice a0 (L 0).length c0) (.slice a1 (L 1).length c1) (.slice a2 (L 2).length c2) (.slice a3 (L 3).length c3) (.slice a4 (L 4).length c4) (.slice a5 (L 5).length c5) (.slice a6 (L 6).length c6) (.slice a7 (L 7).length c7) w
        go_wp2_with fail
        go_round
        case rel => exact ⟨7, by omega, rfl, by rw [show lenTo L 7 = lenTo L 6 + (L 6).length from rfl]; go_num⟩
        case measure => simp [intOf]
      · have j7 := fun w => ix7 (.slice a0 (L 0).length c0) (.slice a1 (L 1).length c1) (.slice a2 (L 2).length c2) (.slice a3 (L 3).length c3) (.slice a4 (L 4).length c4) (.slice a5 (L 5).length c5) (.slice a6 (L 6).length c6) (.slice a7 (L 7).length c7) w
        go_wp2_with fail
        go_round
        case rel => exact ⟨8, by omega, rfl, by rw [show lenTo L 8 = lenTo L 7 + (L 7).length from rfl]; go_num⟩
        case measure => simp [intOf]
    · obtain rfl : k = 8 := by omega
      go_wp2_with fail
      go_ret
      exact ⟨rfl, rfl⟩
theorem info_box : (Try.prog.info? 81).map (fun i => (i.zero, i.size, i.bytes)) = some (some (.agg #[.int .i64 0, .int .i64 0, .int .i64 0, .int .i64 0, .int .u64 0, .int .i64 0, .int .i64 0, .int .i64 0, .int .i64 0, .slice none 0 0, .int .i64 0]), 11, 104) := by kernel_rfl
def LinePost (l : List It) (w : World) (e : Ending) (w' : World) : Prop := ∃ v, e = .returned v ∧ w'.ownsRow w.heap.size 81 11 v l.length (l.flatMap It.row) ∧ Below w.heap.size w w'
theorem line_no (p : Int) (w : World) (hp : p < 0 ∨ 8 ≤ p) (q : Option Addr) : Calls Try.prog 76 #[.pointer q, .int .i64 p] w fun e w' => e = .returned (.slice none 0 0) ∧ w = w' := by
  have hp2 : p < 0 ∨ (0 ≤ p ∧ 8 ≤ p) := by omega
  clear hp
  rcases q with _ | q
  · go_enter Try.func76, Try.ntmps76
    go_wp2_with fail
    go_ret
    exact ⟨rfl, rfl⟩
  · rcases hp2 with h | ⟨h, h2⟩
    all_goals
      go_enter Try.func76, Try.ntmps76
      go_wp2_with fail
      go_ret
      exact ⟨rfl, rfl⟩
set_option maxRecDepth 100000 in
set_option maxHeartbeats 4000000 in
theorem line_any (b B0 : Nat) (V : Nat → Value) (room u : Int) (L : Nat → List It) (p : Nat) (w : World) (h : Qu b B0 V room u L w) (hp : p < 8) (hl : (L p).length ≤ 1000000) : Calls Try.prog 76 #[.pointer (some ⟨b, 0, none⟩), .int .i64 p] w (LinePost (L p) w) := by
  obtain ⟨a, c, hv, hcell, hlc, hm⟩ := h.lineAt p hp
  have hown := h.own p hp
  rw [hv] at hown
  have HRD := Lib.hid (Rd.of_own hown)
  have lb := h.ob.lt
  have fb := (h.ob.blk).2.2
  clear h hv hown
  go_enter Try.func76, Try.ntmps76
  go_wp2_with fail
  go_loopw [4, 24] (fun o i wr => ∃ k : Nat, k ≤ (L p).length ∧ i = .int .i64 k ∧ wr.ownsRow w.heap.size 81 11 o k (((L p).take k).flatMap It.row) ∧ Below w.heap.size w wr) (fun _ i _ => (L p).length - (intOf i).toNat)
  case atStart => exact ⟨0, by omega, rfl, by simpa using World.ownsRow_nil _ _ _ _, Below.refl _ _⟩
  case round =>
    obtain ⟨k, hk, rfl, hown, hbel⟩ := hrel
    obtain ⟨ao, co, rfl, _, _⟩ := (Rd.of_own hown).form
    have HO := Lib.hid hown
    have HB := Lib.hid hbel
    have sw := hbel.size
    clear hown hbel
    by_cases hlt : k < (L p).length
    · obtain ⟨g, o, rfl, hg, hc⟩ := (HRD.out.below HB.out).row rowThr (by decide) k hlt
      have HS := Lib.hid (show (L p).take (k + 1) = (L p).take k ++ [(L p)[k]] from List.take_succ_eq_append_getElem hlt)
      generalize (L p)[k] = x at hc HS
      have c0 := hc 0 _ rfl
      have c1 := hc 1 _ rfl
      have c2 := hc 2 _ rfl
      have c3 := hc 3 _ rfl
      have c4 := hc 4 _ rfl
      have c5 := hc 5 _ rfl
      have c6 := hc 6 _ rfl
      have c7 := hc 7 _ rfl
      have c8 := hc 8 _ rfl
      have c9 := hc 9 _ rfl
      have c10 := hc 10 _ rfl
      have c11 := hc 11 _ rfl
      rw [Nat.add_zero] at c0
      clear hc
      have HA := Lib.hid (HO.out.alloc (.cells #[.int .i64 x.kind, .int .i64 x.src, .int .i64 x.dst, .int .i64 x.prio, .int .u64 x.msg, .int .i64 x.off, .int .i64 x.len, .int .i64 x.total, .int .i64 x.num, .slice x.da x.dn x.dc, .int .i64 x.path, .int .i64 x.sz] 142))
      go_wp2_with (at_builtin; refine wpList_app1 rfl (.tmp 28) (.tmp 31) 87 rfl info_box Try.underlying87 rfl (by decide) HA.out [.int .i64 x.kind, .int .i64 x.src, .int .i64 x.dst, .int .i64 x.prio, .int .u64 x.msg, .int .i64 x.off, .int .i64 x.len, .int .i64 x.total, .int .i64 x.num, .slice x.da x.dn x.dc, .int .i64 x.path] rfl rfl (by simp) ⟨rfl, by simp [Value.oneCell']⟩ (by omega) (by simp; omega) ?_; intro v' w' ho' hg')
      have hb' := grown_below HA.out hg' (by simp; omega)
      go_roundw
      case rel => exact ⟨k + 1, by omega, by go_num, by rw [HS.out, List.flatMap_append]; simpa [It.row] using ho', (HB.out.alloc sw _).trans hb'⟩
      case measure => simp [intOf]; omega
    · obtain rfl : k = (L p).length := by omega
      go_wp2_with fail
      go_ret
      exact ⟨_, rfl, by have := HO.out; rwa [List.take_of_length_le (Nat.le_refl _)] at this, HB.out⟩
end Go.Proofs.Ytoihhidoafgoaaa
