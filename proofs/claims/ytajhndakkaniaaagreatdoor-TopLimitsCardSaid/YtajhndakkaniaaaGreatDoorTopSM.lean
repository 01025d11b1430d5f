/- What is given to the evaluator: a port that is served where nothing waits. -/
import Derived.Test.YtajhndakkaniaaaGreatDoorEvZ
import Derived.Test.YtajhndakkaniaaaGreatDoorLib
import Derived.Test.YtajhndakkaniaaaGreatDoorProg
import Derived.WalkKit
import Derived.Test.YtajhndakkaniaaaGreatDoorRun
import Derived.Test.YtajhndakkaniaaaGreatDoorSets
import Derived.Deep.CutBlock
import Derived.Test.YtajhndakkaniaaaGreatDoorWireEq
namespace Go.Proofs.YtajhndakkaniaaaGreatDoor
open Go.RowKit

namespace Ev
theorem Ext.of_below {P : Program} {B : Nat} {φ : Ren} {H : Hp} {w w' : World} (h : SR P B φ H w) (hb : Below w.heap.size w w') : Ext P B φ H w φ H w' :=
  ⟨Le.refl _, ⟨fun x o hx => by
    obtain ⟨l, obj, h1, h2, h3, h4⟩ := h.live x o hx
    exact ⟨l, obj, h1, by rw [hb.block _ (h.lt hx h1)]; exact h2, h3, h4⟩, h.inj, h.fresh⟩, hb.size, fun b hlt _ => hb.block b hlt, fun x o l hx hl => .inl ⟨x, o, l, hx, hl, rfl⟩, hb.os, hb.tape, hb.output, Nat.le_refl _⟩
theorem cell_some {P : Program} {B : Nat} {φ : Ren} {H : Hp} {w : World} (sr : SR P B φ H w) {x : Bn} {T : TypeId} {st : Bool} {cs : List CV} {q : Nat} {c : CV} (hx : H.cells x = some (T, st, cs)) (hc : nth cs q = some c) :
    ∃ l v, φ x = some l ∧ w.cell? ⟨l.b, l.s + q, none⟩ = some v ∧ cvV φ c = some v ∧ l.b < w.heap.size := by
  obtain ⟨l, arr, fz, i, h1, h2, _, _, _, _, h7, _⟩ := sr.block hx
  rw [nth_eq] at hc
  obtain ⟨v, k1, k2⟩ := h7 q c hc
  exact ⟨l, v, h1, by rw [cell_of h2]; exact k1, k2, sr.lt (Hp.cells_get hx) h1⟩
end Ev
theorem at_in (f y k len cap po fo : Nat) (x : Nat) (q : Nat) (w : World) (hk : k < len) (_hl : len ≤ 1000000) (hf : w.cell? ⟨f, fo + 1, none⟩ = some (.slice (some ⟨y, po, none⟩) len cap)) (hx : w.cell? ⟨y, po + k, none⟩ = some (.pointer (some ⟨x, q, none⟩))) : Calls Tryz.prog 76 #[.pointer (some ⟨f, fo, none⟩), .int .i64 k] w fun e w' => e = .returned (.pointer (some ⟨x, q, none⟩)) ∧ w' = w := by
  have g1 : ¬ ((k : Int) < 0) := by omega
  have g2 : ¬ ((len : Int) ≤ k) := by omega
  go_enter Tryz.func76, Tryz.ntmps76
  go_wp2_with fail
  go_ret
  exact ⟨rfl, rfl⟩
theorem setCells_size1 (w : World) (b j : Nat) (u : Value) : (w.setCell ⟨b, j, none⟩ u).heap.size = w.heap.size := by
  show (w.heap.modify b _).size = _
  rw [Array.size_modify]
def quiet8 (b o : Nat) (w : World) : Prop := ∀ i : Nat, i < 8 → ∃ a c, w.cell? ⟨b, o + 2 + i, none⟩ = some (.slice a 0 c)
theorem quiet8.below {b o n : Nat} {w w' : World} (h : quiet8 b o w) (hb : Below n w w') (hlt : b < n) : quiet8 b o w' := fun i hi => by
  obtain ⟨a, c, hc⟩ := h i hi
  exact ⟨a, c, (hb.cell (p := ⟨b, o + 2 + i, none⟩) hlt).trans hc⟩
theorem top_empty (b o : Nat) (w : World) (h : quiet8 b o w) : Calls Tryz.prog 179 #[.pointer (some ⟨b, o, none⟩)] w fun e w' => e = .returned (.int .i64 (-1)) ∧ w' = w := by
  have HQ := Lib.hid h
  clear h
  go_enter Tryz.func179, Tryz.ntmps179
  go_wp2_with fail
  go_loop [3] (fun i => ∃ k : Int, -1 ≤ k ∧ k ≤ 7 ∧ i = .int .i64 k) (fun i => (intOf i + 1).toNat)
  case atStart => exact ⟨7, by omega, by omega, rfl⟩
  case round =>
    obtain ⟨k, k1, k2, rfl⟩ := hrel
    by_cases h0 : 0 ≤ k
    · obtain ⟨q, rfl⟩ := Int.eq_ofNat_of_zero_le h0
      obtain ⟨a, c, hc⟩ := HQ.out q (by omega)
      go_wp2_with fail
      go_round
      case rel => exact ⟨(q : Int) - 1, by omega, by omega, rfl⟩
      case measure => simp [intOf]
    · go_wp2_with fail
      go_ret
      exact ⟨rfl, rfl⟩
def zItem : Value := .agg #[.int .i64 0, .int .i64 0, .int .i64 0, .int .i64 0, .int .u64 0, .int .i64 0, .int .i64 0, .int .i64 0, .int .i64 0, .slice none 0 0, .int .i64 0]
theorem pop_empty (b o : Nat) (w : World) (hb : b < w.heap.size) (h : quiet8 b o w) : Calls Tryz.prog 156 #[.pointer (some ⟨b, o, none⟩)] w fun e w' => e = .returned (.tuple #[zItem, .int .i64 0, .bool false]) ∧ Below w.heap.size w w' := by
  have HQ := Lib.hid h
  have HB := Lib.hid hb
  clear h hb
  go_enter Tryz.func156, Tryz.ntmps156
  go_wp2_with fail
  refine (top_empty b o _ (HQ.out.below ((Below.refl w.heap.size w).alloc (Nat.le_refl _) _) HB.out)).mono ?_
  rintro e w1 ⟨rfl, rfl⟩
  go_wp2_with fail
  refine done (.tuple #[zItem, .int .i64 0, .bool false]) rfl (by simp [zItem, results, Tryz.results156, go_sem]) ⟨rfl, ?_⟩
  exact (Below.refl w.heap.size w).alloc (Nat.le_refl _) _
set_option maxRecDepth 100000 in
theorem take_empty (b o x q : Nat) (a : Option Addr) (c : Nat) (t now : Int) (w : World) (hb : b < w.heap.size) (hx : x < w.heap.size) (h0 : w.cell? ⟨b, o, none⟩ = some (.pointer (some ⟨x, q, none⟩))) (h1 : w.cell? ⟨b, o + 1, none⟩ = some (.slice a 0 c)) (h4 : w.cell? ⟨b, o + 4, none⟩ = some (.int .i64 t)) (hf : w.frozen? ⟨b, o + 4, none⟩ = false) (hne : x ≠ b) (h : quiet8 x q w) : Calls Tryz.prog 128 #[.pointer (some ⟨b, o, none⟩), .int .i64 now] w fun e w' => e = .returned (.tuple #[zItem, .bool false]) ∧ ∃ w1, Below w.heap.size w w1 ∧ Below w.heap.size (w1.setCell ⟨b, o + 4, none⟩ (.int .i64 (max t now))) w' := by
  have HQ := Lib.hid h
  clear h
  go_enter Tryz.func128, Tryz.ntmps128
  go_upto_region 1 with fail
  have KA : Hid (Below w.heap.size w (w.alloc (.cells #[.int .i64 0, .int .i64 0, .int .i64 0, .int .i64 0, .int .u64 0, .int .i64 0, .int .i64 0, .int .i64 0, .int .i64 0, .slice none 0 0, .int .i64 0] 150))) := Lib.hid ((Below.refl _ w).alloc (Nat.le_refl _) _)
  have OX := Lib.hid (Ob.new w #[.int .i64 0, .int .i64 0, .int .i64 0, .int .i64 0, .int .u64 0, .int .i64 0, .int .i64 0, .int .i64 0, .int .i64 0, .slice none 0 0, .int .i64 0] 150)
  obtain ⟨X, HX⟩ : ∃ X, Hid (w.heap.size = X) := ⟨_, Lib.hid rfl⟩
  have hbX : b < X := by rw [← HX.out]; exact hb
  have hxX : x < X := by rw [← HX.out]; exact hx
  rw [HX.out] at KA OX ⊢
  generalize w.alloc (.cells #[.int .i64 0, .int .i64 0, .int .i64 0, .int .i64 0, .int .u64 0, .int .i64 0, .int .i64 0, .int .i64 0, .int .i64 0, .slice none 0 0, .int .i64 0] 150) = w1 at *
  have c0 : w1.cell? ⟨b, o, none⟩ = some (.pointer (some ⟨x, q, none⟩)) := (KA.out.cell (p := ⟨b, o, none⟩) hbX).trans h0
  have c1 : w1.cell? ⟨b, o + 1, none⟩ = some (.slice a 0 c) := (KA.out.cell (p := ⟨b, o + 1, none⟩) hbX).trans h1
  have c4 : w1.cell? ⟨b, o + 4, none⟩ = some (.int .i64 t) := (KA.out.cell (p := ⟨b, o + 4, none⟩) hbX).trans h4
  have f4 : w1.frozen? ⟨b, o + 4, none⟩ = false := (KA.out.frozen (p := ⟨b, o + 4, none⟩) hbX).trans hf
  have Q1 := Lib.hid (HQ.out.below KA.out hxX)
  clear h0 h1 h4 hf HQ hb hx
  go_upto_region 4 with fail
  have OX2 := Lib.hid (OX.out.other ⟨b, o + 4, none⟩ (.int .i64 (max t now)) (Nat.ne_of_gt hbX))
  have hX2 := OX2.out.lt
  have e0 : (w1.setCell ⟨b, o + 4, none⟩ (.int .i64 (max t now))).cell? ⟨b, o, none⟩ = some (.pointer (some ⟨x, q, none⟩)) := (World.cell?_setCell_other _ _ _ _ (by simp)).trans c0
  have e1 : (w1.setCell ⟨b, o + 4, none⟩ (.int .i64 (max t now))).cell? ⟨b, o + 1, none⟩ = some (.slice a 0 c) := (World.cell?_setCell_other _ _ _ _ (by simp)).trans c1
  have Q2 : Hid (quiet8 x q (w1.setCell ⟨b, o + 4, none⟩ (.int .i64 (max t now)))) := Lib.hid (fun i hi => by
    obtain ⟨a', c', hc⟩ := Q1.out i hi
    exact ⟨a', c', (World.cell?_setCell_other _ _ _ _ (by simp)).trans hc⟩)
  obtain ⟨w2, HW⟩ : ∃ w2, Hid (w1.setCell ⟨b, o + 4, none⟩ (.int .i64 (max t now)) = w2) := ⟨_, Lib.hid rfl⟩
  rw [HW.out] at OX2 hX2 e0 e1 Q2 ⊢
  clear c0 c1 c4 f4 Q1
  have hb2 : b < w2.heap.size := Nat.lt_trans hbX hX2
  go_quiet (fail)
  go_wp2_with fail
  have Q3 : Hid (quiet8 x q (w2.drewN nq)) := Lib.hid Q2.out
  have OX3 : Hid (Ob (w2.drewN nq) X #[.int .i64 0, .int .i64 0, .int .i64 0, .int .i64 0, .int .u64 0, .int .i64 0, .int .i64 0, .int .i64 0, .int .i64 0, .slice none 0 0, .int .i64 0] 150) := Lib.hid OX2.out
  have B3 : Hid (Below X w2 (w2.drewN nq)) := Lib.hid (below_dn (Below.refl X w2))
  have hs3 : X < (w2.drewN nq).heap.size := hX2
  clear OX2 Q2 e0 e1
  generalize w2.drewN nq = w3 at *
  go_wp2_with fail
  refine (pop_empty x q w3 (Nat.lt_trans hxX hs3) Q3.out).mono ?_
  rintro e w4 ⟨rfl, hb4⟩
  have OX4 := Lib.hid (OX3.out.below hb4)
  have hX4 := OX4.out.lt
  have B4 := Lib.hid (B3.out.trans (hb4.mono (Nat.le_of_lt hs3)))
  clear hb4 OX3 B3
  unfold zItem
  have cx := (OX4.out.blk).2.1
  have fX := (OX4.out.blk).2.2
  have k0 : w4.cell? ⟨X, 0, none⟩ = some (.int .i64 0) := cx 0
  have k1 : w4.cell? ⟨X, 1, none⟩ = some (.int .i64 0) := cx 1
  have k2 : w4.cell? ⟨X, 2, none⟩ = some (.int .i64 0) := cx 2
  have k3 : w4.cell? ⟨X, 3, none⟩ = some (.int .i64 0) := cx 3
  have k4 : w4.cell? ⟨X, 4, none⟩ = some (.int .u64 0) := cx 4
  have k5 : w4.cell? ⟨X, 5, none⟩ = some (.int .i64 0) := cx 5
  have k6 : w4.cell? ⟨X, 6, none⟩ = some (.int .i64 0) := cx 6
  have k7 : w4.cell? ⟨X, 7, none⟩ = some (.int .i64 0) := cx 7
  have k8 : w4.cell? ⟨X, 8, none⟩ = some (.int .i64 0) := cx 8
  have k9 : w4.cell? ⟨X, 9, none⟩ = some (.slice none 0 0) := cx 9
  have k10 : w4.cell? ⟨X, 10, none⟩ = some (.int .i64 0) := cx 10
  clear cx
  go_wp2_with fail
  have hw : (((((((((((w4.setCell ⟨X, 0, none⟩ (.int .i64 0)).setCell ⟨X, 1, none⟩ (.int .i64 0)).setCell ⟨X, 2, none⟩ (.int .i64 0)).setCell ⟨X, 3, none⟩ (.int .i64 0)).setCell ⟨X, 4, none⟩ (.int .u64 0)).setCell ⟨X, 5, none⟩ (.int .i64 0)).setCell ⟨X, 6, none⟩ (.int .i64 0)).setCell ⟨X, 7, none⟩ (.int .i64 0)).setCell ⟨X, 8, none⟩ (.int .i64 0)).setCell ⟨X, 9, none⟩ (.slice none 0 0)).setCell ⟨X, 10, none⟩ (.int .i64 0)) = w4.setCells X 0 [.int .i64 0, .int .i64 0, .int .i64 0, .int .i64 0, .int .u64 0, .int .i64 0, .int .i64 0, .int .i64 0, .int .i64 0, .slice none 0 0, .int .i64 0] := rfl
  rw [hw]
  have OF := Lib.hid (OX4.out.sets [.int .i64 0, .int .i64 0, .int .i64 0, .int .i64 0, .int .u64 0, .int .i64 0, .int .i64 0, .int .i64 0, .int .i64 0, .slice none 0 0, .int .i64 0] rfl)
  have BF := Lib.hid (Below.sets B4.out (Nat.le_refl _) (Nat.le_of_lt hX4) [.int .i64 0, .int .i64 0, .int .i64 0, .int .i64 0, .int .u64 0, .int .i64 0, .int .i64 0, .int .i64 0, .int .i64 0, .slice none 0 0, .int .i64 0])
  clear hw
  generalize w4.setCells X 0 [.int .i64 0, .int .i64 0, .int .i64 0, .int .i64 0, .int .u64 0, .int .i64 0, .int .i64 0, .int .i64 0, .int .i64 0, .slice none 0 0, .int .i64 0] = F at *
  have OG := Lib.hid (OF.out.below ((Below.refl _ F).alloc (Nat.le_refl _) (.cells #[.int .i64 0, .int .i64 0, .int .i64 0, .int .i64 0, .int .u64 0, .int .i64 0, .int .i64 0, .int .i64 0, .int .i64 0, .slice none 0 0, .int .i64 0] 150)))
  have BG := Lib.hid (BF.out.alloc (Nat.le_of_lt OF.out.lt) (.cells #[.int .i64 0, .int .i64 0, .int .i64 0, .int .i64 0, .int .u64 0, .int .i64 0, .int .i64 0, .int .i64 0, .int .i64 0, .slice none 0 0, .int .i64 0] 150))
  generalize F.alloc (.cells #[.int .i64 0, .int .i64 0, .int .i64 0, .int .i64 0, .int .u64 0, .int .i64 0, .int .i64 0, .int .i64 0, .int .i64 0, .slice none 0 0, .int .i64 0] 150) = G at *
  have cF := (OG.out.blk).2.1
  have e0 : G.cell? ⟨X, 0, none⟩ = some (.int .i64 0) := cF 0
  have e1 : G.cell? ⟨X, 1, none⟩ = some (.int .i64 0) := cF 1
  have e2 : G.cell? ⟨X, 2, none⟩ = some (.int .i64 0) := cF 2
  have e3 : G.cell? ⟨X, 3, none⟩ = some (.int .i64 0) := cF 3
  have e4 : G.cell? ⟨X, 4, none⟩ = some (.int .u64 0) := cF 4
  have e5 : G.cell? ⟨X, 5, none⟩ = some (.int .i64 0) := cF 5
  have e6 : G.cell? ⟨X, 6, none⟩ = some (.int .i64 0) := cF 6
  have e7 : G.cell? ⟨X, 7, none⟩ = some (.int .i64 0) := cF 7
  have e8 : G.cell? ⟨X, 8, none⟩ = some (.int .i64 0) := cF 8
  have e9 : G.cell? ⟨X, 9, none⟩ = some (.slice none 0 0) := cF 9
  have e10 : G.cell? ⟨X, 10, none⟩ = some (.int .i64 0) := cF 10
  refine done (.tuple #[.agg #[.int .i64 0, .int .i64 0, .int .i64 0, .int .i64 0, .int .u64 0, .int .i64 0, .int .i64 0, .int .i64 0, .int .i64 0, .slice none 0 0, .int .i64 0], .bool false]) rfl (by simp [results, Tryz.results128, go_sem, e0, e1, e2, e3, e4, e5, e6, e7, e8, e9, e10]) ⟨rfl, w1, by rw [HX.out]; exact KA.out, ?_⟩
  rw [HW.out, HX.out]
  exact BG.out
set_option maxRecDepth 100000 in
theorem serve_empty (f fo y po k len cap b o x q : Nat) (a : Option Addr) (c : Nat) (t now : Int) (w : World) (hk : k < len) (hl : len ≤ 1000000) (hb : b < w.heap.size) (hx : x < w.heap.size) (hf1 : w.cell? ⟨f, fo + 1, none⟩ = some (.slice (some ⟨y, po, none⟩) len cap)) (hy : w.cell? ⟨y, po + k, none⟩ = some (.pointer (some ⟨b, o, none⟩)))
    (h0 : w.cell? ⟨b, o, none⟩ = some (.pointer (some ⟨x, q, none⟩))) (h1 : w.cell? ⟨b, o + 1, none⟩ = some (.slice a 0 c)) (h4 : w.cell? ⟨b, o + 4, none⟩ = some (.int .i64 t)) (hf : w.frozen? ⟨b, o + 4, none⟩ = false) (hne : x ≠ b) (h : quiet8 x q w) : Calls Tryz.prog 94 #[.pointer (some ⟨f, fo, none⟩), .int .i64 k, .int .i64 now] w fun e w' => e = .returned (.tuple #[.bool false, .int .i64 0]) ∧ ∃ w1, Below w.heap.size w w1 ∧ Below w.heap.size (w1.setCell ⟨b, o + 4, none⟩ (.int .i64 (max t now))) w' := by
  go_enter Tryz.func94, Tryz.ntmps94
  go_wp2_with fail
  refine (at_in f y k len cap po fo b o w hk hl hf1 hy).mono ?_
  rintro e w1 ⟨rfl, rfl⟩
  go_wp2_with fail
  refine (take_empty b o x q a c t now w1 hb hx h0 h1 h4 hf hne h).mono ?_
  rintro e w2 ⟨rfl, w3, hb3, hb2⟩
  have HB2 := Lib.hid hb2
  have HB3 := Lib.hid hb3
  have hsz : w1.heap.size ≤ w2.heap.size := Nat.le_trans hb3.size (Nat.le_trans (Nat.le_of_eq (setCells_size1 w3 b (o + 4) _).symm) hb2.size)
  clear hb2 hb3
  unfold zItem
  go_wp2_with fail
  go_ret2
  exact ⟨rfl, w3, HB3.out, HB2.out.alloc hsz _⟩
end Go.Proofs.YtajhndakkaniaaaGreatDoor
/- What is given to the evaluator: a port that is served where nothing waits. -/
namespace Go.Proofs.YtajhndakkaniaaaGreatDoor
open Go.RowKit

namespace Ev
noncomputable def quietL (n : Nat) : List CV → Bool :=
  Nat.rec (motive := fun _ => List CV → Bool) (fun _ => true) (fun _ ih l => List.casesOn (motive := fun _ => Bool) l false (fun c r => match lenC c with
    | some 0 => ih r
    | _ => false)) n
theorem quietL_ok : ∀ {n : Nat} {l : List CV}, quietL n l = true → ∀ i, i < n → ∃ c, l[i]? = some c ∧ lenC c = some 0
  | 0, _, _, i, h => absurd h (Nat.not_lt_zero i)
  | n + 1, [], h, _, _ => by cases h
  | n + 1, c :: r, h, i, hi => by
    have h : (match lenC c with
      | some 0 => quietL n r
      | _ => false) = true := h
    split at h
    · rename_i e
      cases i with
      | zero => exact ⟨c, rfl, e⟩
      | succ i =>
        rw [List.getElem?_cons_succ]
        exact quietL_ok h i (by omega)
    · cases h
theorem lenC_zero {φ : Ren} {c : CV} {v : Value} {n : Nat} (h : lenC c = some n) (hv : cvV φ c = some v) : ∃ a q, v = .slice a n q := by
  cases c with
  | k u =>
    cases hv
    cases v with
    | slice a m q =>
      cases a with
      | none => cases h; exact ⟨_, _, rfl⟩
      | some a => cases h
    | _ => cases h
  | s x o d m e =>
    cases h
    simp only [cvV] at hv
    cases hx : φ x with
    | none => rw [hx] at hv; cases hv
    | some l =>
      rw [hx] at hv
      simp only at hv
      split at hv
      · cases hv; exact ⟨_, _, rfl⟩
      · cases hv
  | _ => cases h
noncomputable def serveQ (T : TypeId) (st : Bool) (cb cx : List CV) (b x : Bn) (o q : Nat) (t now : Int) (H : Hp) : Option (TV × Hp) := match Bn.beq x b with
  | true => none
  | false => match quietL 8 (dropC (q + 2) cx) with
    | true => match stN cb (o + 4) [.k (.int .i64 (max t now))] with
      | some cb' => some (.t [.c (.k (.bool false)), .c (.k (.int .i64 0))], H.set b (.cells T st cb'))
      | none => none
    | false => none
noncomputable def serveR (H : Hp) (b : Bn) (o : Nat) (now : Int) : Option (TV × Hp) := match H.cells b with
  | some (T, st, cb) => match nth cb o, nth cb (o + 1), nth cb (o + 4) with
    | some (.p x q), some c1, some (.k (.int .i64 t)) => match lenC c1, H.cells x with
      | some 0, some (_, _, cx) => serveQ T st cb cx b x o q t now H
      | _, _ => none
    | _, _, _ => none
  | none => none
noncomputable def serveS (H : Hp) (f : Bn) (fo : Nat) (n now : Int) : Option (TV × Hp) := match H.cells f with
  | some (_, _, cf) => match nth cf (fo + 1), natOf n with
    | some (.s y p _ len _), some k => match Nat.blt k len && Nat.ble len 1000000, H.cells y with
      | true, some (_, _, cy) => match nth cy (p + k) with
        | some (.p b o) => serveR H b o now
        | _ => none
      | _, _ => none
    | _, _ => none
  | none => none
noncomputable def serveP : List TV → Hp → Option (TV × Hp) := fun a H => match a with
  | [.s (.c (.p f fo)), .s (.c (.k (.int .i64 n))), .s (.c (.k (.int .i64 now)))] => serveS H f fo n now
  | _ => none
theorem Ext.later {P : Program} {B : Nat} {φ φ' : Ren} {H H' : Hp} {w w1 w2 : World} (h : Ext P B φ H w φ' H' w1) (hn : ∀ x o l, H'.t.get x = some o → φ' x = some l → l.b < w.heap.size) (hb : Below w.heap.size w1 w2) : Ext P B φ H w φ' H' w2 :=
  ⟨h.le, ⟨fun x o hx => by
    obtain ⟨l, obj, h1, h2, h3, h4⟩ := h.sr.live x o hx
    exact ⟨l, obj, h1, (hb.block _ (hn x o l hx h1)).trans h2, h3, h4⟩, h.sr.inj, h.sr.fresh⟩, Nat.le_trans h.size hb.size, fun b hlt k => (hb.block b hlt).trans (h.frame b hlt k), h.own, hb.os.trans h.os, hb.tape.trans h.tape, hb.output.trans h.output, h.nx⟩
theorem serveP_ok {l : List TV} {H H' : Hp} {v : TV} (h : serveP l H = some (v, H')) {B : Nat} {φ : Ren} {args : Array Value} {w : World} (ha : tvsV φ l = some args.toList) (sr : SR Tryz.prog B φ H w) :
    Calls Tryz.prog 94 args w fun e w' => ∃ u φ', e = .returned u ∧ tvV φ' v = some u ∧ Ext Tryz.prog B φ H w φ' H' w' := by
  unfold serveP at h
  split at h
  · rename_i f fo n now
    unfold serveS at h
    split at h
    · rename_i Tf stf cf hcf
      split at h
      · rename_i y p d len ee k e1 e2
        have hn := natOf_ok e2
        split at h
        · rename_i Ty sty cy e3 hcy
          rw [Bool.and_eq_true, Nat.blt_eq] at e3
          have hlen := Nat.le_of_ble_eq_true e3.2
          split at h
          · rename_i b o e4
            unfold serveR at h
            split at h
            · rename_i T st cb hcb
              split at h
              · rename_i x q c1 t e5 e6 e7
                split at h
                · rename_i Tx stx cx e8 hcx
                  unfold serveQ at h
                  split at h
                  · cases h
                  · rename_i e9
                    split at h
                    · rename_i e10
                      split at h
                      · rename_i cb' e11
                        cases h
                        have hne := Bn.beq_ne e9
                        obtain ⟨lf, vf, f1, f2, f3, f4⟩ := cell_some sr hcf e1
                        obtain ⟨ly, vy, y1, y2, y3, y4⟩ := cell_some sr hcy e4
                        obtain ⟨lb, vb, b1, b2, b3, b4⟩ := cell_some sr hcb e5
                        obtain ⟨_, vc, c1', c2, c3, _⟩ := cell_some sr hcb e6
                        rw [b1] at c1'
                        cases c1'
                        obtain ⟨_, vt, t1, t2, t3, _⟩ := cell_some sr hcb e7
                        rw [b1] at t1
                        cases t1
                        cases t3
                        obtain ⟨lx, arx, fzx, ix, x1, x2, _, _, _, _, x7, _⟩ := sr.block hcx
                        have x4 := sr.lt (Hp.cells_get hcx) x1
                        simp only [cvV, y1] at f3
                        split at f3
                        · rename_i hroom
                          cases f3
                          rw [if_neg (by omega)] at f2
                          simp only [cvV, ptrV, b1] at y3
                          cases y3
                          simp only [cvV, ptrV, x1] at b3
                          cases b3
                          obtain ⟨a, cp, rfl⟩ := lenC_zero e8 c3
                          simp only [tvsV, tvV, svV, cvV, ptrV, f1] at ha
                          injection ha with ha
                          have := Array.ext' (ys := #[Value.pointer (some ⟨lf.b, lf.s + fo, none⟩), .int .i64 n, .int .i64 now]) ha.symm
                          subst this
                          subst hn
                          have hxb : lx.b ≠ lb.b := fun e => hne (sr.inj x b _ _ lx lb (Hp.cells_get hcx) (Hp.cells_get hcb) x1 b1 e)
                          obtain ⟨_, arb, fzb, ib, k1, k2, k3, k4, k5, k6, _, _⟩ := sr.block hcb
                          rw [b1] at k1
                          cases k1
                          have hlt4 : lb.s + (o + 4) < arb.size := by
                            have := (List.getElem?_eq_some_iff.1 ((nth_eq _ _).symm.trans e7)).1
                            omega
                          have hfr : w.frozen? ⟨lb.b, lb.s + o + 4, none⟩ = false := frozen_of k2 k6 (by omega)
                          have hq : quiet8 lx.b (lx.s + q) w := fun i hi => by
                            obtain ⟨c, hc1, hc2⟩ := quietL_ok e10 i hi
                            rw [dropC_eq, List.getElem?_drop] at hc1
                            obtain ⟨u, u1, u2⟩ := x7 _ _ hc1
                            obtain ⟨a', q', rfl⟩ := lenC_zero hc2 u2
                            refine ⟨a', q', ?_⟩
                            rw [cell_of x2, show lx.s + q + 2 + i = lx.s + (q + 2 + i) by omega]
                            exact u1
                          refine (serve_empty lf.b (lf.s + fo) ly.b (ly.s + p) k len _ lb.b (lb.s + o) lx.b (lx.s + q) a cp t now w e3.1 hlen b4 x4 (by rw [Nat.add_assoc]; exact f2) (by rw [Nat.add_assoc]; exact y2) b2 (by rw [Nat.add_assoc]; exact c2) (by rw [Nat.add_assoc]; exact t2) hfr hxb hq).mono ?_
                          rintro e w' ⟨rfl, w1, hb1, hb2⟩
                          have hx1 := Ext.of_below sr hb1
                          have hx2 := hx1.sr.store (us := [.int .i64 (max t now)]) hcb e11 b1 rfl
                          have hx3 := hx1.trans hx2
                          exact ⟨_, φ, rfl, rfl, hx3.later (fun yy o' l' hz hl' => by
                            by_cases ez : yy = b
                            · subst ez
                              rw [b1] at hl'
                              cases hl'
                              exact b4
                            · exact sr.lt ((Tr.get_other _ _ _ _ ez).symm.trans hz) hl') hb2⟩
                        · cases f3
                      · cases h
                    · cases h
                · cases h
              · cases h
            · cases h
          · cases h
        · cases h
      · cases h
    · cases h
  · cases h
end Ev
end Go.Proofs.YtajhndakkaniaaaGreatDoor
/- What is given to the evaluator: a frame written as bytes; a number read out of bytes. -/
namespace Go.Proofs.YtajhndakkaniaaaGreatDoor
open Go.RowKit

namespace Ev
/-- numbers as bytes -/
noncomputable def u8C (b : UInt8) : CV := .k (.int .u8 (Int.ofNat b.toNat))
noncomputable def rowC (l : List UInt8) : List CV := List.rec (motive := fun _ => List CV) [] (fun x _ ih => u8C x :: ih) l
theorem rowC_map : ∀ l : List UInt8, rowC l = l.map u8C
  | [] => rfl
  | b :: r => by rw [List.map_cons, ← rowC_map r]; rfl
theorem rowC_ok {φ : Ren} : ∀ l : List UInt8, cvsV φ (rowC l) = some (bcells l)
  | [] => rfl
  | _ :: r => cvsV_mk rfl (rowC_ok r)
/-- bytes of a row, each of them small -/
noncomputable def byteC : CV → Option UInt8
  | .k (.int .u8 (.ofNat n)) => match Nat.blt n 256 with
    | true => some (UInt8.ofNat n)
    | false => none
  | _ => none
theorem byteC_ok {φ : Ren} {c : CV} {b : UInt8} (h : byteC c = some b) : cvV φ c = some (.int .u8 b.toNat) := by
  unfold byteC at h
  split at h
  · rename_i n
    split at h
    · rename_i e1
      cases h
      have hn : n < 256 := by simpa using e1
      simp only [cvV]
      congr 2
      show Int.ofNat n = ((UInt8.ofNat n).toNat : Int)
      rw [UInt8.toNat_ofNat', Nat.mod_eq_of_lt hn]
      rfl
    · cases h
  · cases h
noncomputable def bytesC (l : List CV) : Option (List UInt8) :=
  List.rec (motive := fun _ => Option (List UInt8)) (some []) (fun c _ ih => match byteC c, ih with
    | some b, some r => some (b :: r)
    | _, _ => none) l
theorem bytesC_cons {c : CV} {r : List CV} : bytesC (c :: r) = (match byteC c, bytesC r with
    | some b, some r => some (b :: r)
    | _, _ => none) := rfl
theorem bytesC_ok {φ : Ren} : ∀ {l : List CV} {bs : List UInt8}, bytesC l = some bs → cvsV φ l = some (bcells bs)
  | [], bs, h => by cases h; rfl
  | c :: r, bs, h => by
    rw [bytesC_cons] at h
    split at h
    · rename_i b l e1 e2
      cases h
      exact cvsV_mk (byteC_ok e1) (bytesC_ok e2)
    · cases h
/-- may a frame be? -/
noncomputable def okB (f : Go.Proofs.YtajhndakkaniaaaGreatDoor.Fr) : Bool := decide (1 ≤ f.kind) && decide (f.kind ≤ 12) && decide (0 ≤ f.src) && decide (f.src ≤ 7) && decide (0 ≤ f.dst) && decide (f.dst ≤ 7) && decide (0 ≤ f.prio) && decide (f.prio ≤ 7) && decide (0 ≤ f.msg) && decide (f.msg ≤ 1152921504606846976) && decide (0 ≤ f.off) && decide (f.off ≤ 1073741824) && decide (0 ≤ f.total) && decide (f.total ≤ 1073741824) && decide (0 ≤ f.len) && decide (f.len ≤ 1500) && decide (0 ≤ f.num) && decide (f.num ≤ 1073741824) &&
  (!(decide (f.kind = 1) || decide (f.kind = 7)) || decide (f.off + f.len ≤ f.total)) && decide ((f.data.length : Int) = if f.kind = 1 then f.len else 0)
theorem okB_ok {f : Go.Proofs.YtajhndakkaniaaaGreatDoor.Fr} (h : okB f = true) : okF f := by
  unfold okB at h
  simp only [Bool.and_eq_true, Bool.or_eq_true, Bool.not_eq_true', Bool.or_eq_false_iff, decide_eq_true_iff, decide_eq_false_iff_not] at h
  obtain ⟨⟨⟨⟨⟨⟨⟨⟨⟨⟨⟨⟨⟨⟨⟨⟨⟨⟨⟨h1, h2⟩, h3⟩, h4⟩, h5⟩, h6⟩, h7⟩, h8⟩, h9⟩, h10⟩, h11⟩, h12⟩, h13⟩, h14⟩, h15⟩, h16⟩, h17⟩, h18⟩, h19⟩, h20⟩ := h
  exact ⟨⟨h1, h2⟩, ⟨h3, h4⟩, ⟨h5, h6⟩, ⟨h7, h8⟩, ⟨h9, h10⟩, ⟨h11, h12⟩, ⟨h13, h14⟩, ⟨h15, h16⟩, ⟨h17, h18⟩, fun e => by
    rcases h19 with h | h
    · rcases e with e | e
      · exact absurd e h.1
      · exact absurd e h.2
    · exact h, h20⟩
noncomputable def dataC (H : Hp) : CV → Option (List CV)
  | .k (.slice none 0 0) => some []
  | .s y p _ n _ => match Nat.blt 0 n, H.cells y with
    | true, some (_, _, cs) => ldN cs p n
    | _, _ => none
  | _ => none
noncomputable def encP : List TV → Hp → Option (TV × Hp) := fun a H => match a with
  | [.s (.a [.k (.int .i64 k), .k (.int .i64 s), .k (.int .i64 d), .k (.int .i64 p), .k (.int .u64 m), .k (.int .i64 o), .k (.int .i64 l), .k (.int .i64 t), .k (.int .i64 n), c])] => match dataC H c with
    | some cs => match bytesC cs with
      | some bs => match okB ⟨k, s, d, p, m, o, l, t, n, bs⟩ with
        | true => some (.t [.c (.s H.nx 0 0 (26 + bs.length) 0), .c (.k (.int .i64 0))], H.new (.cells 5 false (rowC (encF ⟨k, s, d, p, m, o, l, t, n, bs⟩))))
        | false => none
      | none => none
    | none => none
  | _ => none
noncomputable def getP : List TV → Hp → Option (TV × Hp) := fun a H => match a with
  | [.s (.c c)] => match dataC H c with
    | some cs => match bytesC cs with
      | some bs => match Nat.ble bs.length 8 with
        | true => some (.s (.c (.k (.int .u64 (Int.ofNat (getB bs))))), H)
        | false => none
      | none => none
    | none => none
  | _ => none
theorem dataC_rd {P : Program} {B : Nat} {φ : Ren} {H : Hp} {w : World} (sr : SR P B φ H w) {c : CV} {v : Value} {cs : List CV} {bs : List UInt8} (hc : dataC H c = some cs) (hb : bytesC cs = some bs) (hv : cvV φ c = some v) : Rd w 1 v bs.length (bcells bs) := by
  unfold dataC at hc
  split at hc
  · cases hc
    cases hb
    cases hv
    exact Rd.nil _ _
  · rename_i y p d n e
    split at hc
    · rename_i T st cs0 hn hy
      have hn := Nat.blt_eq.mp hn
      obtain ⟨l, vs, h1, h2, h3, h4⟩ := sr.row hy hc
      have h5 := bytesC_ok (φ := φ) hb
      rw [h2] at h5
      cases h5
      have hlen : bs.length = n := by rw [← h3, bcells, List.length_map]
      obtain ⟨l', arr, fz, i, k1, k2, k3, k4, k5, k6, k7, k8⟩ := sr.block hy
      rw [h1] at k1
      cases k1
      simp only [cvV, h1] at hv
      split at hv
      · rename_i hroom
        cases hv
        rw [if_neg (by omega)]
        refine .inr ⟨⟨l.b, l.s + p, Option.none⟩, l.c - d, by rw [hlen], by omega, by unfold maxLen; omega, by rw [bcells, List.length_map]; omega, fun j u hu => ?_⟩
        rw [addr_add]
        exact h4 j u hu
      · cases hv
    · cases hc
  · cases hc
theorem getP_ok {l : List TV} {H H' : Hp} {v : TV} (h : getP l H = some (v, H')) {B : Nat} {φ : Ren} {args : Array Value} {w : World} (ha : tvsV φ l = some args.toList) (sr : SR Tryz.prog B φ H w) :
    Calls Tryz.prog 39 args w fun e w' => ∃ u φ', e = .returned u ∧ tvV φ' v = some u ∧ Ext Tryz.prog B φ H w φ' H' w' := by
  unfold getP at h
  split at h
  · rename_i c
    split at h
    · rename_i cs e1
      split at h
      · rename_i bs e2
        split at h
        · rename_i e3
          cases h
          simp only [tvsV, tvV, svV] at ha
          cases hv : cvV φ c with
          | none => rw [hv] at ha; cases ha
          | some u =>
            rw [hv] at ha
            injection ha with ha
            have := Array.ext' (ys := #[u]) ha.symm
            subst this
            refine (get_any bs u w (dataC_rd sr e1 e2 hv) (Nat.le_of_ble_eq_true e3)).mono ?_
            rintro e w' ⟨rfl, rfl⟩
            exact ⟨_, φ, rfl, rfl, Ext.refl sr⟩
        · cases h
      · cases h
    · cases h
  · cases h
theorem encP_ok {l : List TV} {H H' : Hp} {v : TV} (h : encP l H = some (v, H')) {B : Nat} {φ : Ren} {args : Array Value} {w : World} (ha : tvsV φ l = some args.toList) (sr : SR Tryz.prog B φ H w) (hB : B ≤ w.heap.size) :
    Calls Tryz.prog 41 args w fun e w' => ∃ u φ', e = .returned u ∧ tvV φ' v = some u ∧ Ext Tryz.prog B φ H w φ' H' w' := by
  unfold encP at h
  split at h
  · rename_i k s d p m o l t n c
    split at h
    · rename_i cs e1
      split at h
      · rename_i bs e2
        split at h
        · rename_i e3
          cases h
          have hok := okB_ok e3
          cases hv : cvV φ c with
          | none =>
            exfalso
            simp only [tvsV, tvV, svV] at ha
            split at ha
            · rename_i v' l' e1' e2'
              split at e1'
              · rename_i vs e3'
                obtain ⟨_, _, _, q0, rfl⟩ := cvsV_cons e3'
                obtain ⟨_, _, _, q1, rfl⟩ := cvsV_cons q0
                obtain ⟨_, _, _, q2, rfl⟩ := cvsV_cons q1
                obtain ⟨_, _, _, q3, rfl⟩ := cvsV_cons q2
                obtain ⟨_, _, _, q4, rfl⟩ := cvsV_cons q3
                obtain ⟨_, _, _, q5, rfl⟩ := cvsV_cons q4
                obtain ⟨_, _, _, q6, rfl⟩ := cvsV_cons q5
                obtain ⟨_, _, _, q7, rfl⟩ := cvsV_cons q6
                obtain ⟨_, _, _, q8, rfl⟩ := cvsV_cons q7
                obtain ⟨_, _, q9, _, rfl⟩ := cvsV_cons q8
                rw [hv] at q9
                cases q9
              · cases e1'
            · cases ha
          | some u =>
            have hag : cvsV φ [.k (.int .i64 k), .k (.int .i64 s), .k (.int .i64 d), .k (.int .i64 p), .k (.int .u64 m), .k (.int .i64 o), .k (.int .i64 l), .k (.int .i64 t), .k (.int .i64 n), c] = some [.int .i64 k, .int .i64 s, .int .i64 d, .int .i64 p, .int .u64 m, .int .i64 o, .int .i64 l, .int .i64 t, .int .i64 n, u] := cvsV_mk rfl (cvsV_mk rfl (cvsV_mk rfl (cvsV_mk rfl (cvsV_mk rfl (cvsV_mk rfl (cvsV_mk rfl (cvsV_mk rfl (cvsV_mk rfl (cvsV_mk hv rfl)))))))))
            simp only [tvsV, tvV, svV, hag] at ha
            injection ha with ha
            have := Array.ext' (ys := #[(Go.Proofs.YtajhndakkaniaaaGreatDoor.Fr.mk k s d p m o l t n bs).val u]) ha.symm
            subst this
            refine (encode_any ⟨k, s, d, p, m, o, l, t, n, bs⟩ u hok.msg.1 w (dataC_rd sr e1 e2 hv)).mono ?_
            rintro e w' ⟨⟨_, r, rfl, hown⟩ | ⟨hno, _⟩, hb⟩
            · rcases hown.2 with ⟨_, hz0⟩ | ⟨g, cap, cur, rfl, k1, k2, k3, k4, k5, k6⟩
              · rw [enc_len] at hz0
                omega
              · obtain ⟨i0, hi, hz0, hz1, hz2⟩ := info_parts info_u8
                have hlen := enc_len ⟨k, s, d, p, m, o, l, t, n, bs⟩
                have hx' := (Ext.of_below sr hb).adoptP (l := ⟨g, 0, cap⟩) (a := .cells 5 false (rowC (encF ⟨k, s, d, p, m, o, l, t, n, bs⟩))) k2 ⟨cur, (0, 0), i0, rfl, hi, by show 0 + cap * i0.size ≤ _; rw [hz1]; omega, ⟨by show _ ≤ cap * i0.size; rw [hz1, rowC_map, List.length_map]; omega, by show cap ≤ 9223372036854775807; unfold maxLen at *; omega⟩, .inl rfl, fun j cc hj => by
                  obtain ⟨u', q1, q2⟩ := cvsV_get (rowC_ok (φ := name φ H.nx ⟨g, 0, cap⟩) _) j cc hj
                  refine ⟨u', ?_, q2⟩
                  have hjl : j < (encF ⟨k, s, d, p, m, o, l, t, n, bs⟩).length := by
                    have := (List.getElem?_eq_some_iff.1 q1).1
                    rwa [bcells, List.length_map] at this
                  rw [Nat.zero_add, ← Array.getElem?_toList, ← q1, ← k6, List.getElem?_take_of_lt (by omega)]⟩ k1 (fun x o k hx hk => Nat.ne_of_lt (Nat.lt_of_lt_of_le (sr.lt hx hk) k1)) hB
                refine ⟨_, _, rfl, ?_, hx'⟩
                simp only [tvV, svsV, svV, cvV, name_same]
                rw [if_pos (by rw [← hlen]; omega), ← hlen]
                simp
            · exact absurd hok hno
        · cases h
      · cases h
    · cases h
  · cases h
noncomputable def eqU (l : List UInt8) : List UInt8 → Bool :=
  List.rec (motive := fun _ => List UInt8 → Bool) (fun m => List.casesOn (motive := fun _ => Bool) m true (fun _ _ => false)) (fun a _ ih m => List.casesOn (motive := fun _ => Bool) m false (fun b r => match Nat.beq a.toNat b.toNat with
    | true => ih r
    | false => false)) l
theorem eqU_eq : ∀ (l m : List UInt8), eqU l m = decide (l = m)
  | [], [] => rfl
  | [], _ :: _ => rfl
  | _ :: _, [] => rfl
  | a :: l, b :: m => by
    show (match Nat.beq a.toNat b.toNat with
      | true => eqU l m
      | false => false) = _
    split
    · rename_i e
      have e := UInt8.toNat_inj.1 (nb e)
      subst e
      rw [eqU_eq l m]
      simp
    · rename_i e
      have : a ≠ b := fun q => by rw [q] at e; simp at e
      simp [this]
noncomputable def eqP : List TV → Hp → Option (TV × Hp) := fun a H => match a with
  | [.s (.c c), .s (.c d)] => match dataC H c, dataC H d with
    | some cs, some ds => match bytesC cs, bytesC ds with
      | some l, some m => some (.s (.c (.k (.bool (eqU l m)))), H)
      | _, _ => none
    | _, _ => none
  | _ => none
theorem eqP_ok {l : List TV} {H H' : Hp} {v : TV} (h : eqP l H = some (v, H')) {B : Nat} {φ : Ren} {args : Array Value} {w : World} (ha : tvsV φ l = some args.toList) (sr : SR Tryz.prog B φ H w) :
    Calls Tryz.prog 42 args w fun e w' => ∃ u φ', e = .returned u ∧ tvV φ' v = some u ∧ Ext Tryz.prog B φ H w φ' H' w' := by
  unfold eqP at h
  split at h
  · rename_i c d
    split at h
    · rename_i cs ds e1 e2
      split at h
      · rename_i l m e3 e4
        cases h
        simp only [tvsV, tvV, svV] at ha
        cases hv : cvV φ c with
        | none => rw [hv] at ha; cases ha
        | some u =>
          cases hu : cvV φ d with
          | none => rw [hv, hu] at ha; cases ha
          | some u' =>
            rw [hv, hu] at ha
            injection ha with ha
            have := Array.ext' (ys := #[u, u']) ha.symm
            subst this
            refine (equal_any u u' l m w (dataC_rd sr e1 e3 hv) (dataC_rd sr e2 e4 hu)).mono ?_
            rintro e w' ⟨rfl, rfl⟩
            exact ⟨_, φ, rfl, by rw [eqU_eq]; rfl, Ext.refl sr⟩
      · cases h
    · cases h
  · cases h
end Ev
end Go.Proofs.YtajhndakkaniaaaGreatDoor
