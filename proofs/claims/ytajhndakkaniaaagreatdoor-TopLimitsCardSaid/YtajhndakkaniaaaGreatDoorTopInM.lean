/- slices.Collect: over a slice of ints; over the values of an empty map. -/
import Derived.RangeFuncBox
import Derived.RangeFuncLeaves
import Derived.Maps.AppendAt
import Derived.Shelf.Abstract
import Derived.WalkKit
import Derived.OwnWalkIn
import Derived.TacticsInMore
import Derived.LoopNIn
import Derived.LoopIn
import Derived.Laws.IdiomRangeMap
import Derived.Test.YtajhndakkaniaaaGreatDoorProg
import Derived.Lib.Strings
import Derived.Lib.Slices
import Derived.Lib.Walk
import Derived.Lib.Bytealg
import Derived.Lib.Builder
import Derived.Lib.AppendStr
import Derived.Lib.UnsafeStr
import Derived.Laws.MakeOwn
import Derived.Deep.OwnRows
import Derived.Laws.Externs
import Derived.RowKit
import Derived.OwnWalk
import Derived.Shelf.RegionOpenPlain
import Derived.Maps.RangeRun
import Derived.Maps.Range
import Derived.Shelf.SlSortCmp.Whole1
import Derived.Sort.LotA
import Derived.Below
import Derived.Test.YtajhndakkaniaaaGreatDoorRun
import Derived.Test.YtajhndakkaniaaaGreatDoorSlices
import Derived.Test.YtajhndakkaniaaaGreatDoorEvZ
import Derived.Test.YtajhndakkaniaaaGreatDoorTopSM
import Derived.Test.YtajhndakkaniaaaGreatDoorNum
namespace Go.Proofs.YtajhndakkaniaaaGreatDoor
open Go.RowKit Go.Shelf

attribute [local go_sem] Oper.semAt_some

def upto {α : Type} (f : Nat → α) (k : Nat) : List α := (List.range k).map f
theorem upto_succ {α : Type} (f : Nat → α) (k : Nat) : upto f (k + 1) = upto f k ++ [f k] := by simp [upto, List.range_succ]
theorem upto_length {α : Type} (f : Nat → α) (k : Nat) : (upto f k).length = k := by simp [upto]
theorem upto_all (zs : List Int) : upto (fun j => zs[j]?.getD 0) zs.length = zs := by
  apply List.ext_getElem
  · simp [upto]
  · intro i h1 h2
    simp [upto, h2]
/-- the closure of slices.Values at ints -/
theorem values1 (F : Fence) (n : Nat) (hf : F.fn 429) (hro : F.round = none) (hn : 1 ≤ n) (l Bs q n₀ b off len cap : Nat) (zs : List Int) (hreach : len * 8 ≤ 140737488351232) (hb : b < n₀) (J Jx : List Int → World → Prop)
    (hY : ∀ pre x W, J pre W → pre.length < len → YieldAt F (n - 1) Tryz.prog l #[.int .i64 x] W fun e W' =>
      (e = .returned (.bool true) ∧ J (pre ++ [x]) W' ∧ Below n₀ W W') ∨ (e = .returned (.bool false) ∧ Jx (pre ++ [x]) W'))
    (W : World) (hBs : W.cell? ⟨Bs, q, none⟩ = some (.slice (some ⟨b, off, none⟩) len cap)) (hc : ∀ j, j < len → W.cell? ⟨b, off + j, none⟩ = some (.int .i64 (zs[j]?.getD 0))) (h0 : J [] W) :
    CallsIn F n Tryz.prog 429 #[.func (.yield l) #[] #[], .pointer (some ⟨Bs, q, none⟩)] W fun e W' => (∃ v, e = .returned v) ∧
      ((∃ ys, ys = upto (fun j => zs[j]?.getD 0) len ∧ J ys W') ∨ (∃ pre, (∃ k, k ≤ len ∧ pre = upto (fun j => zs[j]?.getD 0) k) ∧ Jx pre W')) := by
  refine callsIn_of_wp Tryz.func429 rfl hf ?_ hro
  simp only [Tryz.ntmps429, List.size_toArray, List.length_cons, List.length_nil, Nat.reduceAdd, Nat.reduceSub, Array.replicate_succ, Array.replicate_zero, List.push_toArray, List.append_toArray, List.nil_append, List.cons_append]
  gi_wp2
  gi_loopw [7] (fun i wr => ∃ k : Nat, k ≤ len ∧ i = .int .i64 k ∧ J (upto (fun j => zs[j]?.getD 0) k) wr ∧ Below n₀ W wr)
    (fun i _ => len - (intOf i).toNat)
  case atStart => exact ⟨0, Nat.zero_le _, rfl, h0, Below.refl _ _⟩
  case round =>
    obtain ⟨k, hk, rfl, hJs, hnx⟩ := hrel
    have hcx : k < len → wr.cell? ⟨b, off + k, none⟩ = some (.int .i64 (zs[k]?.getD 0)) := fun h => (hnx.cell (p := ⟨b, off + k, none⟩) hb).trans (hc k h)
    by_cases hlt : k < len
    · obtain ⟨fn, tmps, assign, body, hy, hR⟩ := hY _ (zs[k]?.getD 0) wr hJs (by rw [upto_length]; exact hlt)
      have hcx' := hcx hlt
      gi_wp2
      refine hR.mono ?_
      rintro e W3 (⟨rfl, hJ3, hk3⟩ | ⟨rfl, hJx3⟩)
      · gi_wp2
        go_roundw
        case rel => exact ⟨k + 1, by omega, by simp, by rw [upto_succ]; exact hJ3, hnx.trans hk3⟩
        case measure => simp [intOf]; omega
      · gi_wp2
        refine bodyPost_ret (results_none rfl _ _ _) rfl ?_
        exact ⟨⟨_, rfl⟩, .inr ⟨_, ⟨k + 1, by omega, (upto_succ _ _).symm⟩, hJx3⟩⟩
    · obtain rfl : k = len := by omega
      gi_wp2
      go_end0
      exact ⟨⟨_, rfl⟩, .inl ⟨_, rfl, hJs⟩⟩
theorem values_stops (F : Fence) (n : Nat) (hf : F.fn 429) (hro : F.round = none) (hn : 1 ≤ n) (Bs q n₀ b off cap : Nat) (zs : List Int) (hreach : zs.length * 8 ≤ 140737488351232) (w : World) (hBs : Bs < w.heap.size) (hn₀ : n₀ ≤ w.heap.size) (hb : b < n₀)
    (hc : w.cell? ⟨Bs, q, none⟩ = some (.slice (some ⟨b, off, none⟩) zs.length cap)) (hI : ∀ j, j < zs.length → w.cell? ⟨b, off + j, none⟩ = some (.int .i64 (zs[j]?.getD 0))) :
    SeqStopsK F n Tryz.prog 429 #[.pointer (some ⟨Bs, q, none⟩)] (fun x : Int => #[Value.int .i64 x]) (Below n₀) (fun ys => ys = zs) (fun _ => True) zs.length w := fun l J Jx W hW _ _ hY h0 => by
  have hc' := (hW.cell (p := ⟨Bs, q, none⟩) hBs).trans hc
  refine (values1 F n hf hro hn l Bs q n₀ b off zs.length cap zs hreach hb J Jx hY W hc' (fun j hj => (hW.cell (p := ⟨b, off + j, none⟩) (by show b < _; omega)).trans (hI j hj)) h0).mono ?_
  rintro e W' ⟨he, ⟨ys, rfl, hj⟩ | ⟨pre, _, hj⟩⟩
  · exact ⟨he, .inl ⟨_, upto_all zs, hj⟩⟩
  · exact ⟨he, .inr ⟨_, trivial, hj⟩⟩
theorem info_int : (Tryz.prog.info? 3).map (fun i => (i.zero, i.size, i.bytes)) = some (some (.int .i64 0), 1, 8) := by kernel_rfl

set_option maxRecDepth 100000 in
set_option maxHeartbeats 2000000 in
theorem append_ints (F : Fence) (n : Nat) (ha : F.fn 438) (hf : F.fn 429) (hro : F.round = none) (hn : 3 ≤ n) (Bs q b off cap : Nat) (zs : List Int) (hreach : zs.length * 8 ≤ 140737488351232) (w : World) (hBs : Bs < w.heap.size) (hb : b < w.heap.size)
    (hc : w.cell? ⟨Bs, q, none⟩ = some (.slice (some ⟨b, off, none⟩) zs.length cap)) (hI : ∀ j, j < zs.length → w.cell? ⟨b, off + j, none⟩ = some (.int .i64 (zs[j]?.getD 0))) :
    CallsIn F n Tryz.prog 438 #[.slice none 0 0, .func (.func 429) #[] #[.pointer (some ⟨Bs, q, none⟩)]] w fun e W' => ∃ v, e = .returned v ∧ W'.ownsRow w.heap.size 3 1 v zs.length (zs.map (Value.int .i64)) ∧ Below w.heap.size w W' := by
  have h1 : 1 ≤ n := by omega
  obtain ⟨i0, hi, hz0, hz1, hz2⟩ := info_parts info_int
  refine callsIn_of_wp_marks Tryz.func438 rfl ha ?_ hro
  simp only [Tryz.ntmps438, List.size_toArray, List.length_cons, List.length_nil, Nat.reduceAdd, Nat.reduceSub, Array.replicate_succ, Array.replicate_zero, List.push_toArray, List.append_toArray, List.nil_append, List.cons_append]
  gi_wp2
  have bS := Boxed.new w 45 (.slice none 0 0)
  have hB0 : Below w.heap.size w (w.alloc (.cells #[.slice none 0 0] 45)) := (Below.refl _ w).alloc (Nat.le_refl _) _
  refine wpIn_rangeFunc_ownG hro h1 (gf := 429) (lb := #[.pointer (some ⟨Bs, q, none⟩)]) rfl hf (enters_of Tryz.func429 (by kernel_rfl) rfl)
    (values_stops F (n - 1) hf hro (by omega) Bs q w.heap.size b off cap zs hreach _ (by simp; omega) (by simp) hb ((hB0.cell (p := ⟨Bs, q, none⟩) hBs).trans hc) (fun j hj => (hB0.cell (p := ⟨b, off + j, none⟩) hb).trans (hI j hj))) belowK_t (belowK_b (by simp)) (Below.refl _ _) (fun _ => rfl)
    (fun pre W => (∃ v, Boxed W w.heap.size 45 v ∧ W.ownsRow w.heap.size 3 1 v pre.length (pre.map (Value.int .i64)) ∧ True) ∧ Below w.heap.size w W)
    (fun _ _ _ => False)
    (OwnFrom.and (Own.from (holdsRow_own w.heap.size w.heap.size 45 3 1 (fun s : List Int => s.length) (fun s => s.map (Value.int .i64)) (fun _ _ => True)) _) (ownFrom_below (Nat.le_refl _) (by simp)))
    (fun _ _ _ _ _ hs _ _ => hs)
    ⟨⟨_, bS, ⟨rfl, .inl ⟨rfl, rfl⟩⟩, trivial⟩, hB0⟩
    (fun x => { tmps := #[.slice none 0 0, .func (.func 429) #[] #[.pointer (some ⟨Bs, q, none⟩)], .pointer (some ⟨w.heap.size, 0, none⟩), undef, .slice none 0 0, .int .i64 x, .func (.func 429) #[] #[.pointer (some ⟨Bs, q, none⟩)], .int .i64 x, undef, undef, undef, undef, undef], defers := [] }) ?assign ?body ?done ?stop
  case assign =>
    intro l x W K hK
    gi_wp2
    exact hK
  case body =>
    rintro l pre x W ⟨⟨v, hv, hrow, _⟩, hB⟩ hlt
    have hcv := hv.cell
    have hfv := hv.frozen
    have hsz := hB.size
    have hlen1 : pre.length + 1 ≤ maxLen := by unfold maxLen; omega
    gi_wp2_with (first
      | (gi_at_builtin; refine wpListIn_append_own _ rfl _ _ 45 rfl w.heap.size 3 i0 (.int .i64 0) 1 8 (by kernel_rfl) hi hz0 hz1 hz2 rfl (by decide) _ _ _ rfl (hrow.alloc _) ⟨W.heap.size, 0, none⟩ 1 1 [.int .i64 x] rfl rfl (cell_one_new _ _ _) (by simp [Value.oneCell']) hlen1 (by omega) (by simp; omega) ?_; intro v' w3 hown' hg3 hnil3
         obtain ⟨hv1, k1, k2, k3, k4⟩ := Boxed.appended hv (by decide) hrow hsz (Nat.le_refl _) hown' hg3
         have hcv3 := hv1.cell
         have hfv3 := hv1.frozen
         obtain ⟨g', cap', rfl⟩ := ownsRow_succ hown')
      | (rw [Oper.semAt_eq _ _ _ (fun c h => by cases h)]; go_simp; try go_bits))
    exact ⟨k3.from _, k4, ⟨⟨_, k1, by simpa using k2, trivial⟩, hB.trans k4⟩⟩
  case done =>
    rintro D ys W hD rfl ⟨⟨v, hv, hrow, _⟩, hB⟩ hK
    have hcv := hv.cell
    gi_wp2
    refine ⟨by simp, .inl ⟨_, _, rfl, run_takeDeferred hK, ?_⟩⟩
    exact ⟨_, results_tmp rfl _ _ _, v, rfl, ownsRow_putObj hrow _ hK rfl, hB.trans (belowK_b (w := w) (Nat.le_refl _) W D _ _ (by simp at hD; omega) hK rfl rfl)⟩
  case stop =>
    rintro D c pre W _ _ h _
    exact h.elim
theorem collect_ints (Bs q b off cap : Nat) (zs : List Int) (hreach : zs.length * 8 ≤ 140737488351232) (w : World) (hBs : Bs < w.heap.size) (hb : b < w.heap.size)
    (hc : w.cell? ⟨Bs, q, none⟩ = some (.slice (some ⟨b, off, none⟩) zs.length cap)) (hI : ∀ j, j < zs.length → w.cell? ⟨b, off + j, none⟩ = some (.int .i64 (zs[j]?.getD 0))) :
    Calls Tryz.prog 427 #[.func (.func 429) #[] #[.pointer (some ⟨Bs, q, none⟩)]] w fun e W' => ∃ v, e = .returned v ∧ W'.ownsRow w.heap.size 3 1 v zs.length (zs.map (Value.int .i64)) ∧ Below w.heap.size w W' := by
  have key := (append_ints Fence.wide 3 trivial trivial rfl (Nat.le_refl _) Bs q b off cap zs hreach w hBs hb hc hI).calls room_wide
  go_enter Tryz.func427, Tryz.ntmps427
  go_wp2_with (go_at_call 438; refine Calls.mono key ?_; rintro e w' ⟨v, rfl, h1, h2⟩)
  go_ret
  exact ⟨v, rfl, h1, h2⟩
/-- the closure of maps.Values at a map that is empty -/
theorem left_nil (seen : Array Nat) : (leftOf #[] seen).size = 0 := by simp [leftOf]
theorem values0 (F : Fence) (n : Nat) (hf : F.fn 321) (hro : F.round = none) (l Bm q b clock : Nat) (J : List Value → World → Prop) (W : World) (hJ : AbidesFrom W.heap.size J)
    (hm : W.cell? ⟨Bm, q, none⟩ = some (.map (some b))) (hb : W.heap[b]? = some (.map #[] clock)) (h0 : J [] W) :
    CallsIn F n Tryz.prog 321 #[.func (.yield l) #[] #[], .pointer (some ⟨Bm, q, none⟩)] W fun e W' => (∃ v, e = .returned v) ∧ ∃ ss : List Value, ss = [] ∧ J ss W' := by
  refine callsIn_of_wp Tryz.func321 rfl hf ?_ hro
  simp only [Tryz.ntmps321, List.size_toArray, List.length_cons, List.length_nil, Nat.reduceAdd, Nat.reduceSub, Array.replicate_succ, Array.replicate_zero, List.push_toArray, List.append_toArray, List.nil_append, List.cons_append]
  have hrg := run_range_map (P := Tryz.prog) W 208 198 211 b #[] clock (by kernel_rfl) hb
  have hnx : ∀ ty, (Instr.next (.pointer (some ⟨W.heap.size, 0, none⟩)) false ty).run Tryz.prog (W.alloc (.mapIter (some b) clock #[] clock)) = .ok (.tuple #[.bool false]) (W.alloc (.mapIter (some b) clock #[] clock)) := fun ty => by
    rcases run_next_map (P := Tryz.prog) W ty b clock clock #[] #[] clock hb (fun x hx => by simp at hx) (Nat.le_refl _) with ⟨_, h⟩ | ⟨e, he, _⟩
    · exact h
    · exfalso
      have := left_nil #[]
      simp [leftOf] at he
  gi_wp2
  refine wpIn_loop_rounds 1 ?_
  rw [roundsIn_succ]
  gi_wp2
  go_end0
  exact ⟨⟨_, rfl⟩, [], rfl, hJ [] W _ none h0 (World.grownBy_alloc W _ none) (fun r e => by cases e)⟩
theorem values0_stops (F : Fence) (n : Nat) (hf : F.fn 321) (hro : F.round = none) (Bm q b clock n₀ : Nat) (w : World) (hBm : Bm < w.heap.size) (hbw : b < w.heap.size)
    (hm : w.cell? ⟨Bm, q, none⟩ = some (.map (some b))) (hb : w.heap[b]? = some (.map #[] clock)) :
    SeqStopsK F n Tryz.prog 321 #[.pointer (some ⟨Bm, q, none⟩)] (fun x : Value => #[x]) (Below n₀) (fun ys => ys = []) (fun _ => True) 0 w := fun l J Jx W hW hJ _ _ h0 => by
  refine (values0 F n hf hro l Bm q b clock J W hJ ((hW.cell (p := ⟨Bm, q, none⟩) hBm).trans hm) ((hW.block b hbw).trans hb) h0).mono ?_
  rintro e W' ⟨he, ss, hs, hj⟩
  exact ⟨he, .inl ⟨ss, hs, hj⟩⟩

set_option maxRecDepth 100000 in
set_option maxHeartbeats 2000000 in
theorem append_none (F : Fence) (n : Nat) (ha : F.fn 320) (hf : F.fn 321) (hro : F.round = none) (hn : 3 ≤ n) (Bm q b clock : Nat) (w : World) (hBm : Bm < w.heap.size) (hbw : b < w.heap.size)
    (hm : w.cell? ⟨Bm, q, none⟩ = some (.map (some b))) (hb : w.heap[b]? = some (.map #[] clock)) :
    CallsIn F n Tryz.prog 320 #[.slice none 0 0, .func (.func 321) #[] #[.pointer (some ⟨Bm, q, none⟩)]] w fun e W' => e = .returned (.slice none 0 0) ∧ Below w.heap.size w W' := by
  have h1 : 1 ≤ n := by omega
  refine callsIn_of_wp_marks Tryz.func320 rfl ha ?_ hro
  simp only [Tryz.ntmps320, List.size_toArray, List.length_cons, List.length_nil, Nat.reduceAdd, Nat.reduceSub, Array.replicate_succ, Array.replicate_zero, List.push_toArray, List.append_toArray, List.nil_append, List.cons_append]
  gi_wp2
  have bS := Boxed.new w 397 (.slice none 0 0)
  have hB0 : Below w.heap.size w (w.alloc (.cells #[.slice none 0 0] 397)) := (Below.refl _ w).alloc (Nat.le_refl _) _
  refine wpIn_rangeFunc_ownG hro h1 (gf := 321) (lb := #[.pointer (some ⟨Bm, q, none⟩)]) rfl hf (enters_of Tryz.func321 (by kernel_rfl) rfl)
    (values0_stops F (n - 1) hf hro Bm q b clock w.heap.size _ (by simp; omega) (by simp; omega) ((hB0.cell (p := ⟨Bm, q, none⟩) hBm).trans hm) ((hB0.block b hbw).trans hb)) belowK_t (belowK_b (by simp)) (Below.refl _ _) (fun _ => rfl)
    (fun pre W => (∃ v, Boxed W w.heap.size 397 v ∧ W.ownsRow w.heap.size 211 1 v 0 [] ∧ v = .slice none 0 0) ∧ Below w.heap.size w W)
    (fun _ _ _ => False)
    (OwnFrom.and (Own.from (holdsRow_own w.heap.size w.heap.size 397 211 1 (fun _ : List Value => 0) (fun _ => []) (fun _ v => v = .slice none 0 0)) _) (ownFrom_below (Nat.le_refl _) (by simp)))
    (fun _ _ _ _ _ hs _ _ => hs)
    ⟨⟨_, bS, ⟨rfl, .inl ⟨rfl, rfl⟩⟩, rfl⟩, hB0⟩
    (fun x => { tmps := #[.slice none 0 0, .func (.func 321) #[] #[.pointer (some ⟨Bm, q, none⟩)], .pointer (some ⟨w.heap.size, 0, none⟩), undef, .slice none 0 0, x, .func (.func 321) #[] #[.pointer (some ⟨Bm, q, none⟩)], x, undef, undef, undef, undef, undef], defers := [] }) ?assign ?body ?done ?stop
  case assign =>
    intro l x W K hK
    gi_wp2
    exact hK
  case body =>
    rintro l pre x W _ hlt
    exact absurd hlt (Nat.not_lt_zero _)
  case done =>
    rintro D ys W hD rfl ⟨⟨v, hv, hrow, rfl⟩, hB⟩ hK
    have hcv := hv.cell
    gi_wp2
    refine ⟨by simp, .inl ⟨_, _, rfl, run_takeDeferred hK, ?_⟩⟩
    exact ⟨_, results_tmp rfl _ _ _, rfl, hB.trans (belowK_b (w := w) (Nat.le_refl _) W D _ _ (by simp at hD; omega) hK rfl rfl)⟩
  case stop =>
    rintro D c pre W _ _ h _
    exact h.elim
theorem collect_none (Bm q b clock : Nat) (w : World) (hBm : Bm < w.heap.size) (hbw : b < w.heap.size)
    (hm : w.cell? ⟨Bm, q, none⟩ = some (.map (some b))) (hb : w.heap[b]? = some (.map #[] clock)) :
    Calls Tryz.prog 292 #[.func (.func 321) #[] #[.pointer (some ⟨Bm, q, none⟩)]] w fun e W' => e = .returned (.slice none 0 0) ∧ Below w.heap.size w W' := by
  have key := (append_none Fence.wide 3 trivial trivial rfl (Nat.le_refl _) Bm q b clock w hBm hbw hm hb).calls room_wide
  go_enter Tryz.func292, Tryz.ntmps292
  go_wp2_with (go_at_call 320; refine Calls.mono key ?_; rintro e w' ⟨rfl, h2⟩)
  go_ret
  exact ⟨rfl, h2⟩
end Go.Proofs.YtajhndakkaniaaaGreatDoor
/- shell.Play of one line that asks a world that there is none. -/
namespace Go.Proofs.YtajhndakkaniaaaGreatDoor
open Go.Shelf Go.RowKit

set_option maxRecDepth 100000 in
theorem itoa5 (w : World) : Calls Tryz.prog 108 #[.int .i64 5] w fun e w' => e = .returned (.string ⟨#[53]⟩) ∧ w' = w := by
  go_enter Tryz.func108, Tryz.ntmps108
  go_wp2
  go_ret
  exact ⟨rfl, rfl⟩
theorem answer5 (w : World) : Calls Tryz.prog 50 #[.int .i64 5, .string ⟨#[]⟩] w fun e w' => e = .returned (.string ⟨#[101, 114, 114, 111, 114, 32, 53]⟩) ∧ w' = w := by
  go_enter Tryz.func50, Tryz.ntmps50
  go_wp2_with (first | (go_at_call 108; refine (itoa5 _).mono ?_; rintro e w' ⟨rfl, rfl⟩) | go_in)
  go_ret
  exact ⟨rfl, rfl⟩
set_option maxHeartbeats 1000000 in
theorem trim_suffix (s p : ByteArray) (w : World) (hs : s.size ≤ 9223372036854775807) :
    Calls Tryz.prog 80 #[.string s, .string p] w fun e w' => e = .returned (.string ⟨(Lib.trimSuffix s.data.toList p.data.toList).toArray⟩) ∧ w' = w := by
  have hlo : p.size ≤ s.size → ((s.size : Int) - (p.size : Int) + 9223372036854775808) % 18446744073709551616 - 9223372036854775808 = ((s.size - p.size : Nat) : Int) := fun _ => by omega
  go_enter Tryz.func80, Tryz.ntmps80
  go_wp2
  · have h1 : p.size ≤ s.size := by assumption
    have h2 : ((s.extract (s.size - p.size) s.size).toList == p.toList) = true := by assumption
    go_ret
    refine ⟨?_, rfl⟩
    rw [Lib.trimSuffix_hit s p h1 h2]
    rfl
  · have h2 : ((s.extract (s.size - p.size) s.size).toList == p.toList) = false := by assumption
    go_ret
    refine ⟨?_, rfl⟩
    rw [Lib.trimSuffix_miss s p (by rw [h2]; simp)]
    rfl
  · have h1 : ¬ p.size ≤ s.size := by assumption
    go_ret
    refine ⟨?_, rfl⟩
    rw [Lib.trimSuffix_miss s p (by simp [h1])]
    rfl
set_option maxHeartbeats 1000000 in
theorem has_prefix (s p : ByteArray) (w : World) :
    Calls Tryz.prog 83 #[.string s, .string p] w fun e w' => e = .returned (.bool (Lib.hasPrefix s.data.toList p.data.toList)) ∧ w' = w := by
  rw [← Lib.hasPrefix_of_take, ← Lib.size_eq, ← Lib.size_eq]
  go_enter Tryz.func83, Tryz.ntmps83
  go_wp2
  · rename_i h
    go_ret
    refine ⟨?_, rfl⟩
    show Ending.returned (Value.bool ((s.extract 0 p.size).toList == p.toList)) = _
    rw [Lib.extract_toList, Lib.toList_data]
    simp [h]
  · rename_i h
    go_ret
    refine ⟨?_, rfl⟩
    show Ending.returned (Value.bool false) = _
    simp [h]
set_option maxRecDepth 100000 in
theorem count_idle (w : World) : Calls Tryz.prog 135 #[.string ⟨#[105, 100, 108, 101]⟩, .string ⟨#[10]⟩] w fun e w' => e = .returned (.int .i64 0) ∧ w' = w := by
  go_enter Tryz.func135, Tryz.ntmps135
  go_wp2
  rw [run_callFunc_extern Tryz.func162 (by kernel_rfl) (by kernel_rfl) (by kernel_rfl) (e := Extern.BytealgCount.count) (by kernel_rfl), Lib.run_countString]
  simp only [Result.andThen]
  rw [Oper.upon_value]
  go_wp2
  go_ret
  exact ⟨rfl, rfl⟩
set_option maxRecDepth 100000 in
theorem split_idle (w : World) : Calls Tryz.prog 106 #[.string ⟨#[105, 100, 108, 101]⟩, .string ⟨#[10]⟩, .int .i64 0, .int .i64 (-1)] w fun e w' => e = .returned (.slice (some ⟨w.heap.size, 0, none⟩) 1 1) ∧ w' = w.alloc (.cells #[.string ⟨#[105, 100, 108, 101]⟩] 9) := by
  obtain ⟨i0, hi0, hz0, hs0, hb0⟩ := info_parts (show (Tryz.prog.info? 9).map (fun i => (i.zero, i.size, i.bytes)) = some (some (.string ⟨#[]⟩), 1, 16) by kernel_rfl)
  have hmk : madeCells #[Value.string ⟨#[]⟩] 1 = #[Value.string ⟨#[]⟩] := by kernel_rfl
  have hmin : min (1 : Int) 5 = 1 := by decide
  go_enter Tryz.func106, Tryz.ntmps106
  go_wp2_with (first
    | (go_at_call 135; refine (count_idle _).mono ?_; rintro e w' ⟨rfl, rfl⟩)
    | (refine wpList_make_row _ rfl (.tmp 30) (.tmp 30) _ rfl 9 i0 (.string ⟨#[]⟩) (by rfl) hi0 hz0 hs0 rfl .i64 .i64 1 rfl rfl (by rw [hb0]; omega) (by omega) ?_; rw [hmk])
    | go_in)
  refine wp_loop_rounds 1 ?_
  rw [rounds_succ]
  go_wp2
  go_ret
  exact ⟨rfl, rfl⟩
theorem sizeBuilder : (Tryz.prog.info? 102).map (·.size) = some 2 := by kernel_rfl
theorem liesBuilder : liesAt Tryz.prog Tryz.prog.depth 102 (2 / Tryz.prog.cellsOf 102) 0 102 1 = true := by kernel_rfl
theorem infoByte : (Tryz.prog.info? 5).map (fun i => (i.zero, i.size, i.bytes)) = some (some (.int .u8 0), 1, 1) := by kernel_rfl
theorem cellsByte : Tryz.prog.cellsOf 5 = 1 := by kernel_rfl
theorem undPB : Tryz.prog.underlying 100 = some (.pointer 102) := by kernel_rfl
theorem undUP : Tryz.prog.underlying 225 = some .unsafePointer := by kernel_rfl
theorem undB : Tryz.prog.underlying 33 = some (.slice 5) := by kernel_rfl
theorem undS : Tryz.prog.underlying 9 = some .string := by kernel_rfl
theorem undP8 : Tryz.prog.underlying 161 = some (.pointer 5) := by kernel_rfl
set_option maxHeartbeats 1000000 in
set_option maxRecDepth 100000 in
theorem copy_check (b : Nat) (w : World) (h0 : w.cell? ⟨b, 0, none⟩ = some (.pointer none)) (hsh : w.shape? b = some (102, 2)) (hfz : w.frozen? ⟨b, 0, none⟩ = false) :
    Calls Tryz.prog 82 #[.pointer (some ⟨b, 0, none⟩)] w fun e w' => e = .returned (.tuple #[]) ∧ w' = w.setCell ⟨b, 0, none⟩ (.pointer (some ⟨b, 0, none⟩)) := by
  obtain ⟨j, hj, hjs⟩ := Option.map_eq_some_iff.1 sizeBuilder
  go_enter Tryz.func82, Tryz.ntmps82
  go_wp2
  rw [Lib.run_to_unsafe w ⟨b, 0, none⟩ undPB undUP hj (by rw [hjs]; decide) hsh (Nat.zero_lt_succ 1)]
  simp only [Result.andThen]
  rw [Oper.upon_value]
  go_wp2
  rw [run_callFunc_extern Tryz.func109 (by kernel_rfl) (by kernel_rfl) (by kernel_rfl) (e := Extern.AbiNoEscape.same) (by kernel_rfl)]
  rw [Lib.run_noEscape]
  simp only [Result.andThen]
  rw [Oper.upon_value]
  go_wp2
  rw [Lib.run_from_unsafe w ⟨b, 0, none⟩ undUP undPB hj hsh liesBuilder]
  simp only [Result.andThen]
  rw [Oper.upon_value]
  go_wp2
  go_end0
  exact ⟨rfl, rfl⟩
set_option maxHeartbeats 2000000 in
set_option maxRecDepth 100000 in
theorem write_string (B b : Nat) (s : ByteArray) (w : World) (h : Lib.BuilderAt 102 5 B b (.pointer none) [] w) (hlen : s.size ≤ 140737488355328) (hBw : B ≤ w.heap.size) :
    Calls Tryz.prog 51 #[.pointer (some ⟨b, 0, none⟩), .string s] w fun e w' => e = .returned (.tuple #[.int .i64 s.size, .nilIface]) ∧ (Lib.BuilderAt 102 5 B b (.pointer (some ⟨b, 0, none⟩)) (Lib.strCells s) w' ∧ Below B w w') := by
  obtain ⟨i0, hi, hz0, hz1, hz2⟩ := info_parts infoByte
  go_enter Tryz.func51, Tryz.ntmps51
  go_wp2_with (go_at_call 82; refine (copy_check b _ h.cell0 h.shape h.frozen0).mono ?_)
  rintro e w1 ⟨rfl, rfl⟩
  have hb1 : Below B w (w.setCell ⟨b, 0, none⟩ (.pointer (some ⟨b, 0, none⟩))) := (Below.refl B w).setCell (p := ⟨b, 0, none⟩) h.1 _
  have h1 := h.used (.pointer (some ⟨b, 0, none⟩))
  generalize w.setCell ⟨b, 0, none⟩ (.pointer (some ⟨b, 0, none⟩)) = w1 at *
  obtain ⟨hB, v, hbk, hown, hne⟩ := h1
  have c0 : w1.cell? ⟨b, 0, none⟩ = some (.pointer (some ⟨b, 0, none⟩)) := by rw [Lib.cell_of_heap hbk]; rfl
  have c1 : w1.cell? ⟨b, 1, none⟩ = some v := by rw [Lib.cell_of_heap hbk]; rfl
  go_wp2_with (at_builtin; refine Lib.wpList_append_own_string _ rfl _ _ 33 9 rfl B 5 i0 undB undS hi hz0 hz1 hz2 _ _ _ rfl hown s rfl ?c3 ?c4 ?c5 ?_)
  case c3 => unfold maxLen; simp only [List.length_nil]; omega
  case c4 => simp only [List.length_nil]; omega
  case c5 => have := hb1.size; omega
  intro v' w2 hown' hgrow _
  have hlt : b < w1.heap.size := by
    rcases Nat.lt_or_ge b w1.heap.size with h' | h'
    · exact h'
    · simp [Array.getElem?_eq_none h'] at hbk
  have hb2 : w2.heap[b]? = some (.cells #[.pointer (some ⟨b, 0, none⟩), v] 102 (0, 0)) := by
    rw [hgrow.block b hlt (fun e => hne e.symm)]
    exact hbk
  have d0 : w2.cell? ⟨b, 0, none⟩ = some (.pointer (some ⟨b, 0, none⟩)) := by rw [Lib.cell_of_heap hb2]; rfl
  have d1 : w2.cell? ⟨b, 1, none⟩ = some v := by rw [Lib.cell_of_heap hb2]; rfl
  have f1 : w2.frozen? ⟨b, 1, none⟩ = false := Lib.frozen_of_heap hb2 1
  obtain ⟨ao, n', cap, rfl⟩ : ∃ ao n' cap, v' = .slice ao n' cap := by
    rcases hown'.2 with ⟨hv, _⟩ | ⟨g, cap, cur, hv, _⟩
    · exact ⟨_, _, _, hv⟩
    · exact ⟨_, _, _, hv⟩
  go_wp2
  go_ret2
  refine ⟨rfl, ?_, ?_⟩
  · exact Lib.BuilderAt.put (T := 102) (e := 5) hB hb2 (bs' := Lib.strCells s) (by simpa [Lib.strCells_length] using hown') (by decide)
  · exact (hb1.grown hgrow (by have := hb1.size; omega) (fun k hk => (hown.lt k hk).1)).setCell (p := ⟨b, 1, none⟩) hB _
set_option maxHeartbeats 1000000 in
set_option maxRecDepth 100000 in
theorem build_string (B b : Nat) (l : List UInt8) (p : Value) (w : World) (h : Lib.BuilderAt 102 5 B b p (Lib.byteCells l) w) (h0 : l ≠ []) :
    Calls Tryz.prog 53 #[.pointer (some ⟨b, 0, none⟩)] w fun e w' => e = .returned (.string ⟨l.toArray⟩) ∧ Below B w w' := by
  obtain ⟨hB, v, hbk, hown, hne⟩ := h
  have hl0 : l.length ≠ 0 := by simpa using h0
  rw [Lib.byteCells_length] at hown
  obtain ⟨g, cap, cur, rfl, hbg, hg, hnc, hcm, hcs, htake⟩ : ∃ g cap cur, v = .slice (some ⟨g, 0, none⟩) l.length cap ∧ B ≤ g ∧ w.heap[g]? = some (.cells cur 5 (0, 0)) ∧ l.length ≤ cap ∧ cap ≤ maxLen ∧ cur.size = cap * 1 ∧ cur.toList.take (l.length * 1) = Lib.byteCells l := by
    rcases hown.2 with ⟨_, hz⟩ | ⟨g, cap, cur, hv, r⟩
    · exact absurd hz hl0
    · exact ⟨g, cap, cur, hv, r⟩
  have c1 : w.drew.cell? ⟨b, 1, none⟩ = some (.slice (some ⟨g, 0, none⟩) l.length cap) := by
    have : w.drew.heap[b]? = some (.cells #[p, .slice (some ⟨g, 0, none⟩) l.length cap] 102 (0, 0)) := hbk
    rw [Lib.cell_of_heap this]; rfl
  have hSD : (Builtin.unsafeSliceData_ #[33] 161 #[.slice (some ⟨g, 0, none⟩) l.length cap]).run Tryz.prog w.drew = .ok (.pointer (some ⟨g, 0, none⟩)) w.drew :=
    Lib.run_unsafeSliceData_row _ _ _ _ _ _ (by omega)
  have hUS : (Builtin.unsafeString_ #[161, 3] 9 #[.pointer (some ⟨g, 0, none⟩), .int .i64 l.length]).run Tryz.prog w.drew = .ok (.string ⟨l.toArray⟩) (w.drew.freeze ⟨g, 0, none⟩ l.length) := by
    refine Lib.run_unsafeString_row w.drew 161 3 9 5 undP8 cellsByte g cur.size (by have hg' : w.drew.heap[g]? = some (.cells cur 5 (0, 0)) := hg; simp [World.shape?, hg']) l h0 (by omega) (by unfold maxLen at hcm; omega) ?_
    intro j x hx
    have := hown.cells (g := g) rfl j (.int .u8 x.toNat) (by simp [Lib.byteCells, hx])
    exact this
  have mixed : Tryz.prog.follows .mixedOrders = true := by kernel_rfl
  go_enter Tryz.func53, Tryz.ntmps53
  go_wp2
  go_region_o
  all_goals (go_wp2; go_ret; exact ⟨rfl, Lib.below_freeze (Below.drew (Below.refl B w)) (p := ⟨g, 0, none⟩) hbg _⟩)
theorem trim_idle (w : World) : Calls Tryz.prog 80 #[.string ⟨#[105, 100, 108, 101, 10]⟩, .string ⟨#[10]⟩] w fun e w' => e = .returned (.string ⟨#[105, 100, 108, 101]⟩) ∧ w' = w := by
  have h := trim_suffix ⟨#[105, 100, 108, 101, 10]⟩ ⟨#[10]⟩ w (by decide)
  rw [show (⟨(Lib.trimSuffix (⟨#[105, 100, 108, 101, 10]⟩ : ByteArray).data.toList (⟨#[10]⟩ : ByteArray).data.toList).toArray⟩ : ByteArray) = ⟨#[105, 100, 108, 101]⟩ by kernel_rfl] at h
  exact h
theorem prefix_idle (w : World) : Calls Tryz.prog 83 #[.string ⟨#[105, 100, 108, 101]⟩, .string ⟨#[99, 111, 110, 102, 105, 103, 32]⟩] w fun e w' => e = .returned (.bool false) ∧ w' = w := by
  have h := has_prefix ⟨#[105, 100, 108, 101]⟩ ⟨#[99, 111, 110, 102, 105, 103, 32]⟩ w
  rw [show Lib.hasPrefix (⟨#[105, 100, 108, 101]⟩ : ByteArray).data.toList (⟨#[99, 111, 110, 102, 105, 103, 32]⟩ : ByteArray).data.toList = false by kernel_rfl] at h
  exact h
set_option maxRecDepth 100000 in
theorem lines_idle (w : World) : Calls Tryz.prog 49 #[.string ⟨#[105, 100, 108, 101, 10]⟩] w fun e w' => e = .returned (.tuple #[.slice (some ⟨w.heap.size, 0, none⟩) 1 1, .int .i64 0]) ∧ w' = w.alloc (.cells #[.string ⟨#[105, 100, 108, 101]⟩] 9) := by
  go_enter Tryz.func49, Tryz.ntmps49
  go_wp2_with (first
    | (go_at_call 80; refine (trim_idle _).mono ?_; rintro e w' ⟨rfl, rfl⟩)
    | (go_at_call 106; refine (split_idle _).mono ?_; rintro e w' ⟨rfl, rfl⟩)
    | go_in)
  go_ret2
  exact ⟨rfl, rfl⟩
theorem line_idle (b : Nat) (w : World) (h : w.cell? ⟨b, 0, none⟩ = some (.pointer none)) : Calls Tryz.prog 52 #[.pointer (some ⟨b, 0, none⟩), .string ⟨#[105, 100, 108, 101]⟩] w fun e w' => e = .returned (.string ⟨#[101, 114, 114, 111, 114, 32, 53]⟩) ∧ w' = w := by
  go_enter Tryz.func52, Tryz.ntmps52
  go_wp2_with (first
    | (go_at_call 83; refine (prefix_idle _).mono ?_; rintro e w' ⟨rfl, rfl⟩)
    | (go_at_call 50; refine (answer5 _).mono ?_; rintro e w' ⟨rfl, rfl⟩)
    | go_in)
  go_ret
  exact ⟨rfl, rfl⟩
set_option maxRecDepth 100000 in
theorem play_idle (w : World) : Calls Tryz.prog 22 #[.string ⟨#[105, 100, 108, 101, 10]⟩] w fun e w' => e = .returned (.string ⟨#[101, 114, 114, 111, 114, 32, 53, 10]⟩) ∧ Below w.heap.size w w' := by
  go_enter Tryz.func22, Tryz.ntmps22
  go_wp2_with (first
    | (go_at_call 49; refine (lines_idle _).mono ?_; rintro e w' ⟨rfl, rfl⟩)
    | go_in)
  obtain ⟨w3, hw3⟩ : ∃ w3, ((w.alloc (.cells #[.string ⟨#[105, 100, 108, 101]⟩] 9)).alloc (.cells #[.pointer none, .slice none 0 0] 102)).alloc (.cells #[.pointer none] 105) = w3 := ⟨_, rfl⟩
  rw [hw3]
  have hb3 : Below w.heap.size w w3 := by
    rw [← hw3]
    exact (((Below.refl _ w).alloc (Nat.le_refl _) _).alloc (by simp) _).alloc (by simp; omega) _
  have hn : ∀ b, b < w.heap.size + 1 + 1 + 1 → w3.heap[b]? = if b = w.heap.size + 1 + 1 then some (.cells #[.pointer none] 105 (0, 0)) else if b = w.heap.size + 1 then some (.cells #[.pointer none, .slice none 0 0] 102 (0, 0)) else if b = w.heap.size then some (.cells #[.string ⟨#[105, 100, 108, 101]⟩] 9 (0, 0)) else w.heap[b]? := fun b _ => by
    rw [← hw3]
    simp only [World.alloc, Array.getElem?_push, Array.size_push]
  have hc1 : w3.cell? ⟨w.heap.size, 0, none⟩ = some (.string ⟨#[105, 100, 108, 101]⟩) := by
    rw [Lib.cell_of_heap ((hn _ (by omega)).trans (by rw [if_neg (by omega), if_neg (by omega), if_pos rfl]))]
    rfl
  have hc2 : w3.cell? ⟨w.heap.size + 1 + 1, 0, none⟩ = some (.pointer none) := by
    rw [Lib.cell_of_heap ((hn _ (by omega)).trans (by rw [if_pos rfl]))]
    rfl
  have hbd : Lib.BuilderAt 102 5 w.heap.size (w.heap.size + 1) (.pointer none) [] w3 :=
    ⟨by omega, .slice none 0 0, (hn _ (by omega)).trans (by rw [if_neg (by omega), if_pos rfl]), ⟨rfl, .inl ⟨rfl, rfl⟩⟩, by simp [Value.ownBlock]⟩
  clear hn
  have hs3 := hb3.size
  clear hw3
  refine wp_loop_rounds 2 ?_
  rw [rounds_succ]
  go_wp2_with (first
    | (go_at_call 52; refine (line_idle _ _ hc2).mono ?_; rintro e w' ⟨rfl, rfl⟩)
    | (go_at_call 51; refine (write_string w.heap.size (w.heap.size + 1) ⟨#[101, 114, 114, 111, 114, 32, 53, 10]⟩ _ hbd (by decide) hs3).mono ?_; rintro e w4 ⟨rfl, hbd4, hb4⟩)
    | go_in)
  rw [rounds_succ]
  go_wp2_with (first
    | (go_at_call 53; refine (build_string w.heap.size (w.heap.size + 1) [101, 114, 114, 111, 114, 32, 53, 10] _ _ hbd4 (by decide)).mono ?_; rintro e w5 ⟨rfl, hb5⟩)
    | go_in)
  go_ret
  exact ⟨rfl, hb3.trans (hb4.trans hb5)⟩
end Go.Proofs.YtajhndakkaniaaaGreatDoor
/- slices.Collect over the values of a map: its addresses, in some order. -/
namespace Go.Proofs.YtajhndakkaniaaaGreatDoor
open Go.RowKit Go.Shelf Go.MapKept
open Go.ChangeMaps (setBlock)

attribute [local go_sem] Oper.semAt_some

theorem old_of_new (w : World) (o : Obj) {r : Nat} (h : r < w.heap.size) : (w.alloc o).heap[r]? = w.heap[r]? := by
  show (w.heap.push o)[r]? = _
  rw [Array.getElem?_push_lt h, Array.getElem?_eq_getElem h]
theorem new_of_new (w : World) (o : Obj) : (w.alloc o).heap[w.heap.size]? = some o := by
  show (w.heap.push o)[w.heap.size]? = _
  simp
abbrev ptrOf (a : Addr) : Value := .pointer (some a)
theorem perm_born : ∀ {l : List MapEntry} {e : MapEntry}, (l.map (·.born)).Nodup → e ∈ l → l.Perm (e :: l.filter fun x => !(x.born == e.born))
  | [], _, _, h => by cases h
  | a :: r, e, hn, he => by
    rw [List.map_cons, List.nodup_cons] at hn
    rcases List.mem_cons.1 he with rfl | he
    · have : r.filter (fun x => !(x.born == e.born)) = r := List.filter_eq_self.2 fun x hx => by
        have : x.born ≠ e.born := fun q => hn.1 (by rw [← q]; exact List.mem_map_of_mem hx)
        simpa using this
      rw [List.filter_cons_of_neg (by simp), this]
    · have hne : a.born ≠ e.born := fun q => hn.1 (by rw [q]; exact List.mem_map_of_mem he)
      rw [List.filter_cons_of_pos (by simpa using hne)]
      exact ((perm_born hn.2 he).cons a).trans (List.Perm.swap e a _)
theorem left_push (es : Array MapEntry) (seen : Array Nat) (b : Nat) : (leftOf es (seen.push b)).toList = (leftOf es seen).toList.filter fun x => !(x.born == b) := by
  unfold leftOf
  rw [Array.toList_filter, Array.toList_filter, List.filter_filter]
  congr 1
  funext x
  rw [contains_push, Bool.not_or, Bool.and_comm]
theorem left_nodup {es : Array MapEntry} (seen : Array Nat) (h : (es.toList.map (·.born)).Nodup) : ((leftOf es seen).toList.map (·.born)).Nodup := by
  unfold leftOf
  rw [Array.toList_filter]
  exact (List.filter_sublist.map _).nodup h
theorem left_all (es : Array MapEntry) : (leftOf es #[]).toList = es.toList := by
  unfold leftOf
  rw [Array.toList_filter]
  exact List.filter_eq_self.2 fun x _ => by simp
def bothK (n₀ : Nat) (W W' : World) : Prop := Below n₀ W W' ∧ KeepsWalks W W'
theorem bothK_t {n₀ : Nat} {A B C : World} (h : bothK n₀ A B) (k : bothK n₀ B C) : bothK n₀ A C := ⟨h.1.trans k.1, h.2.trans k.2⟩
theorem bothK_b {n₀ : Nat} {w : World} (hn : n₀ ≤ w.heap.size) (W : World) (l : Nat) (o o' : Obj) (hl : w.heap.size ≤ l) (h : W.heap[l]? = some o) (h1 : o.isCells = false) (h2 : o.isWalk = false) : bothK n₀ W (W.putObj l o') := ⟨belowK_b hn W l o o' hl h h1 h2, walksK_b W l o o' hl h h1 h2⟩

set_option maxHeartbeats 1000000 in
/-- the closure of maps.Values -/
theorem valuesM (F : Fence) (n : Nat) (hf : F.fn 321) (hro : F.round = none) (hn : 1 ≤ n) (l Bm q b clock n₀ : Nat) (es : Array MapEntry) (ads : List Addr)
    (hbo : ∀ x ∈ es.toList, x.born < clock) (hnd : (es.toList.map (·.born)).Nodup) (hv : es.toList.map (·.val) = ads.map ptrOf) (hbn : b < n₀) (J Jx : List Addr → World → Prop)
    (hY : ∀ pre x W, J pre W → pre.length < es.size → YieldAt F (n - 1) Tryz.prog l #[ptrOf x] W fun e W' =>
      (e = .returned (.bool true) ∧ J (pre ++ [x]) W' ∧ bothK n₀ W W') ∨ (e = .returned (.bool false) ∧ Jx (pre ++ [x]) W'))
    (W : World) (hW : n₀ ≤ W.heap.size) (hJ : AbidesFrom W.heap.size J) (hm : W.cell? ⟨Bm, q, none⟩ = some (.map (some b))) (hb : W.heap[b]? = some (.map es clock)) (h0 : J [] W) :
    CallsIn F n Tryz.prog 321 #[.func (.yield l) #[] #[], .pointer (some ⟨Bm, q, none⟩)] W fun e W' => (∃ v, e = .returned v) ∧
      ((∃ ss : List Addr, (ss.map ptrOf).Perm (ads.map ptrOf) ∧ J ss W') ∨ (∃ pre, True ∧ Jx pre W')) := by
  refine callsIn_of_wp Tryz.func321 rfl hf ?_ hro
  simp only [Tryz.ntmps321, List.size_toArray, List.length_cons, List.length_nil, Nat.reduceAdd, Nat.reduceSub, Array.replicate_succ, Array.replicate_zero, List.push_toArray, List.append_toArray, List.nil_append, List.cons_append]
  have hrg := run_range_map (P := Tryz.prog) W 208 198 211 b es clock (by kernel_rfl) hb
  gi_wp2
  have hbW : b ≠ W.heap.size := by omega

  gi_loopw [4] (fun _ wr => ∃ (seen : Array Nat) (c0 : Nat) (ss : List Addr), wr.heap[W.heap.size]? = some (.mapIter (some b) clock seen c0) ∧ clock ≤ c0 ∧ wr.heap[b]? = some (.map es clock) ∧ (ss.map ptrOf ++ (leftOf es seen).toList.map (·.val)).Perm (ads.map ptrOf) ∧ J ss wr)
    (fun _ wr => (leftOf es (wr.iterSeen W.heap.size)).size)
  case atStart =>
    refine ⟨#[], clock, [], new_of_new _ _, Nat.le_refl _, (old_of_new _ _ (by omega)).trans hb, ?_, hJ [] W _ none h0 (World.grownBy_alloc W _ none) (fun r e => by cases e)⟩
    rw [left_all, hv]
    exact List.Perm.refl _
  case round =>
    obtain ⟨seen, c0, ss, hit, hc0, hbm, hpm, hJs⟩ := hrel
    rcases run_next_at (P := Tryz.prog) wr 0 W.heap.size b clock c0 seen es clock hit hbm hbo hc0 with ⟨hl0, hrun⟩ | ⟨e, he, w1, hal, hrun⟩
    · have hnx : ∀ ty, (Instr.next (.pointer (some ⟨W.heap.size, 0, none⟩)) false ty).run Tryz.prog wr = .ok (.tuple #[.bool false]) wr := fun ty => hrun
      clear hrun
      gi_wp2
      go_end0
      refine ⟨⟨_, rfl⟩, .inl ⟨ss, ?_, hJs⟩⟩
      have : (leftOf es seen).toList = [] := by
        apply List.eq_nil_of_length_eq_zero
        rw [Array.length_toList]
        exact hl0
      rw [this, List.map_nil, List.append_nil] at hpm
      exact hpm
    · obtain ⟨hem, hes⟩ := mem_left he
      obtain ⟨x, hx⟩ : ∃ x, e.val = ptrOf x := by
        have : e.val ∈ ads.map ptrOf := by rw [← hv]; exact List.mem_map_of_mem hem
        obtain ⟨x, _, hx⟩ := List.mem_map.1 this
        exact ⟨x, hx.symm⟩
      have hr1 : w1.heap[W.heap.size]? = some (.mapIter (some b) clock seen c0) := by rcases hal with rfl | rfl <;> exact hit
      have hb1 : w1.heap[b]? = some (.map es clock) := by rcases hal with rfl | rfl <;> exact hbm
      have hset := heap_set (o' := .mapIter (some b) clock (seen.push e.born) clock) hr1
      have hg2 : wr.grownBy (setBlock w1 W.heap.size (.mapIter (some b) clock (seen.push e.born) clock)) (some W.heap.size) := by
        rcases hal with rfl | rfl <;> exact ⟨rfl, rfl, rfl, by simp [setBlock], fun i _ hi => hset.2 i (fun e1 => hi (by rw [e1]))⟩
      obtain ⟨w2, hw2⟩ : ∃ w2, setBlock w1 W.heap.size (.mapIter (some b) clock (seen.push e.born) clock) = w2 := ⟨_, rfl⟩
      have hit2 : (setBlock w1 W.heap.size (.mapIter (some b) clock (seen.push e.born) clock)).heap[W.heap.size]? = some (.mapIter (some b) clock (seen.push e.born) clock) := hset.1
      have hbm2 : (setBlock w1 W.heap.size (.mapIter (some b) clock (seen.push e.born) clock)).heap[b]? = some (.map es clock) := (hset.2 b hbW).trans hb1
      rw [hw2] at hrun hg2 hit2 hbm2
      have hnx : ∀ ty, (Instr.next (.pointer (some ⟨W.heap.size, 0, none⟩)) false ty).run Tryz.prog wr = .ok (.tuple #[.bool true, e.key, ptrOf x]) w2 := fun ty => by rw [← hx]; exact hrun
      have hJ2 : J ss w2 := hJ ss wr w2 (some W.heap.size) hJs hg2 (fun r e => by cases e; exact ⟨Nat.le_refl _, _, hit, rfl⟩)
      have hp1 := perm_born (left_nodup seen hnd) he
      have hlen : ss.length < es.size := by
        have h1 := hpm.length_eq
        have h2 := congrArg List.length hv
        have h3 := hp1.length_eq
        simp only [List.length_append, List.length_map, List.length_cons, Array.length_toList] at h1 h2 h3
        omega
      obtain ⟨fn, tmps, assign, body, hy, hR⟩ := hY ss x w2 hJ2 hlen
      clear hset hrun hw2
      have hent := run_entry_at (P := Tryz.prog) w2 W.heap.size b clock seen es clock e hit2 hbm2 hem hnd
      rw [hx] at hent
      gi_wp2
      refine hR.mono ?_
      rintro e3 W3 (⟨rfl, hJ3, hk3, hk4⟩ | ⟨rfl, hJx3⟩)
      · gi_wp2
        have hit3 := hk4.same _ _ hit2 rfl
        have hbm3 := (hk3.block b hbn).trans hbm2
        have hl : (leftOf es (seen.push e.born)).toList = (leftOf es seen).toList.filter fun x => !(x.born == e.born) := left_push es seen e.born
        go_roundw
        case rel =>
          refine ⟨seen.push e.born, clock, ss ++ [x], hit3, Nat.le_refl _, hbm3, ?_, hJ3⟩
          refine List.Perm.trans ?_ hpm
          rw [hl, List.map_append, List.append_assoc]
          refine List.Perm.append_left _ ?_
          have := (hp1.map (·.val)).symm
          rw [List.map_cons, hx] at this
          exact this
        case measure =>
          have e1 : W3.iterSeen W.heap.size = seen.push e.born := by unfold World.iterSeen; rw [hit3]
          have e2 : wr.iterSeen W.heap.size = seen := by unfold World.iterSeen; rw [hit]
          rw [e1, e2]
          exact left_shrinks es seen e he
      · gi_wp2
        refine bodyPost_ret (results_none rfl _ _ _) rfl ?_
        exact ⟨⟨_, rfl⟩, .inr ⟨_, trivial, hJx3⟩⟩
theorem valuesM_stops (F : Fence) (n : Nat) (hf : F.fn 321) (hro : F.round = none) (hn : 1 ≤ n) (Bm q b clock n₀ : Nat) (es : Array MapEntry) (ads : List Addr)
    (hbo : ∀ x ∈ es.toList, x.born < clock) (hnd : (es.toList.map (·.born)).Nodup) (hv : es.toList.map (·.val) = ads.map ptrOf) (hbn : b < n₀) (w : World) (hn₀ : n₀ ≤ w.heap.size) (hBm : Bm < w.heap.size)
    (hm : w.cell? ⟨Bm, q, none⟩ = some (.map (some b))) (hb : w.heap[b]? = some (.map es clock)) :
    SeqStopsK F n Tryz.prog 321 #[.pointer (some ⟨Bm, q, none⟩)] (fun x : Addr => #[ptrOf x]) (bothK n₀) (fun ss => (ss.map ptrOf).Perm (ads.map ptrOf)) (fun _ => True) es.size w := fun l J Jx W hW hJ _ hY h0 =>
  valuesM F n hf hro hn l Bm q b clock n₀ es ads hbo hnd hv hbn J Jx hY W (Nat.le_trans hn₀ hW.size) hJ ((hW.cell (p := ⟨Bm, q, none⟩) hBm).trans hm) ((hW.block b (by omega)).trans hb) h0
theorem info_in : (Tryz.prog.info? 211).map (fun i => (i.zero, i.size, i.bytes)) = some (some (.pointer none), 1, 8) := by kernel_rfl

set_option maxRecDepth 100000 in
set_option maxHeartbeats 2000000 in
theorem append_vals (F : Fence) (n : Nat) (ha : F.fn 320) (hf : F.fn 321) (hro : F.round = none) (hn : 3 ≤ n) (Bm q b clock : Nat) (es : Array MapEntry) (ads : List Addr)
    (hbo : ∀ x ∈ es.toList, x.born < clock) (hnd : (es.toList.map (·.born)).Nodup) (hv : es.toList.map (·.val) = ads.map ptrOf) (hreach : es.size * 8 ≤ 140737488351232) (w : World) (hBm : Bm < w.heap.size) (hbw : b < w.heap.size)
    (hm : w.cell? ⟨Bm, q, none⟩ = some (.map (some b))) (hb : w.heap[b]? = some (.map es clock)) :
    CallsIn F n Tryz.prog 320 #[.slice none 0 0, .func (.func 321) #[] #[.pointer (some ⟨Bm, q, none⟩)]] w fun e W' => ∃ v ss, e = .returned v ∧ (List.map ptrOf ss).Perm (ads.map ptrOf) ∧ W'.ownsRow w.heap.size 211 1 v ss.length (ss.map ptrOf) ∧ Below w.heap.size w W' := by
  have h1 : 1 ≤ n := by omega
  obtain ⟨i0, hi, hz0, hz1, hz2⟩ := info_parts info_in
  refine callsIn_of_wp_marks Tryz.func320 rfl ha ?_ hro
  simp only [Tryz.ntmps320, List.size_toArray, List.length_cons, List.length_nil, Nat.reduceAdd, Nat.reduceSub, Array.replicate_succ, Array.replicate_zero, List.push_toArray, List.append_toArray, List.nil_append, List.cons_append]
  gi_wp2
  have bS := Boxed.new w 397 (.slice none 0 0)
  have hB0 : Below w.heap.size w (w.alloc (.cells #[.slice none 0 0] 397)) := (Below.refl _ w).alloc (Nat.le_refl _) _
  refine wpIn_rangeFunc_ownG hro h1 (gf := 321) (lb := #[.pointer (some ⟨Bm, q, none⟩)]) rfl hf (enters_of Tryz.func321 (by kernel_rfl) rfl)
    (valuesM_stops F (n - 1) hf hro (by omega) Bm q b clock w.heap.size es ads hbo hnd hv hbw _ (by simp) (by simp; omega) ((hB0.cell (p := ⟨Bm, q, none⟩) hBm).trans hm) ((hB0.block b hbw).trans hb)) bothK_t (bothK_b (by simp)) (Below.refl _ _) (fun _ => rfl)
    (fun pre W => (∃ v, Boxed W w.heap.size 397 v ∧ W.ownsRow w.heap.size 211 1 v pre.length (pre.map ptrOf) ∧ True) ∧ Below w.heap.size w W)
    (fun _ _ _ => False)
    (OwnFrom.and (Own.from (holdsRow_own w.heap.size w.heap.size 397 211 1 (fun s : List Addr => s.length) (fun s => s.map ptrOf) (fun _ _ => True)) _) (ownFrom_below (Nat.le_refl _) (by simp)))
    (fun _ _ _ _ _ hs _ _ => hs)
    ⟨⟨_, bS, ⟨rfl, .inl ⟨rfl, rfl⟩⟩, trivial⟩, hB0⟩
    (fun x => { tmps := #[.slice none 0 0, .func (.func 321) #[] #[.pointer (some ⟨Bm, q, none⟩)], .pointer (some ⟨w.heap.size, 0, none⟩), undef, .slice none 0 0, ptrOf x, .func (.func 321) #[] #[.pointer (some ⟨Bm, q, none⟩)], ptrOf x, undef, undef, undef, undef, undef], defers := [] }) ?assign ?body ?done ?stop
  case assign =>
    intro l x W K hK
    gi_wp2
    exact hK
  case body =>
    rintro l pre x W ⟨⟨v, hv, hrow, _⟩, hB⟩ hlt
    have hcv := hv.cell
    have hfv := hv.frozen
    have hsz := hB.size
    have hlen1 : pre.length + 1 ≤ maxLen := by unfold maxLen; omega
    have hwk := KeepsWalks.alloc W (.cells #[ptrOf x] 211)
    gi_wp2_with (first
      | (gi_at_builtin; refine wpListIn_append_own _ rfl _ _ 397 rfl w.heap.size 211 i0 (.pointer none) 1 8 (by kernel_rfl) hi hz0 hz1 hz2 rfl (by decide) _ _ _ rfl (hrow.alloc _) ⟨W.heap.size, 0, none⟩ 1 1 [ptrOf x] rfl rfl (cell_one_new _ _ _) (by simp [Value.oneCell']) hlen1 (by omega) (by simp; omega) ?_; intro v' w3 hown' hg3 hnil3
         have hwk3 := KeepsWalks.of_grownBy hg3 (fun j o hj ho => by
           rcases hrow.2 with ⟨rfl, _⟩ | ⟨g, cap, cur, rfl, q1, q2, _⟩
           · cases hj
           · cases hj
             have := (old_of_new W (.cells #[ptrOf x] 211) (Array.getElem?_eq_some_iff.1 q2).1).trans q2
             rw [this] at ho
             cases ho
             rfl)
         obtain ⟨hv1, k1, k2, k3, k4⟩ := Boxed.appended hv (by decide) hrow hsz (Nat.le_refl _) hown' hg3
         have hcv3 := hv1.cell
         have hfv3 := hv1.frozen
         obtain ⟨g', cap', rfl⟩ := ownsRow_succ hown')
      | (rw [Oper.semAt_eq _ _ _ (fun c h => by cases h)]; go_simp; try go_bits))
    exact ⟨k3.from _, ⟨k4, (hwk.trans hwk3).trans (KeepsWalks.setCell _ _ _)⟩, ⟨⟨_, k1, by simpa using k2, trivial⟩, hB.trans k4⟩⟩
  case done =>
    rintro D ys W hD hp ⟨⟨v, hv, hrow, _⟩, hB⟩ hK
    have hcv := hv.cell
    gi_wp2
    refine ⟨by simp, .inl ⟨_, _, rfl, run_takeDeferred hK, ?_⟩⟩
    exact ⟨_, results_tmp rfl _ _ _, v, ys, rfl, hp, ownsRow_putObj hrow _ hK rfl, hB.trans (belowK_b (w := w) (Nat.le_refl _) W D _ _ (by simp at hD; omega) hK rfl rfl)⟩
  case stop =>
    rintro D c pre W _ _ h _
    exact h.elim
theorem collect_vals (Bm q b clock : Nat) (es : Array MapEntry) (ads : List Addr)
    (hbo : ∀ x ∈ es.toList, x.born < clock) (hnd : (es.toList.map (·.born)).Nodup) (hv : es.toList.map (·.val) = ads.map ptrOf) (hreach : es.size * 8 ≤ 140737488351232) (w : World) (hBm : Bm < w.heap.size) (hbw : b < w.heap.size)
    (hm : w.cell? ⟨Bm, q, none⟩ = some (.map (some b))) (hb : w.heap[b]? = some (.map es clock)) :
    Calls Tryz.prog 292 #[.func (.func 321) #[] #[.pointer (some ⟨Bm, q, none⟩)]] w fun e W' => ∃ v ss, e = .returned v ∧ (List.map ptrOf ss).Perm (ads.map ptrOf) ∧ W'.ownsRow w.heap.size 211 1 v ss.length (ss.map ptrOf) ∧ Below w.heap.size w W' := by
  have key := (append_vals Fence.wide 3 trivial trivial rfl (Nat.le_refl _) Bm q b clock es ads hbo hnd hv hreach w hBm hbw hm hb).calls room_wide
  go_enter Tryz.func292, Tryz.ntmps292
  go_wp2_with (go_at_call 320; refine Calls.mono key ?_; rintro e w' ⟨v, ss, rfl, h1, h2, h3⟩)
  go_ret
  exact ⟨v, ss, rfl, h1, h2, h3⟩
/-- all of nothing is taken out -/
theorem delete_none (b clock f : Nat) (caps : Array Value) (w : World) (hb : w.heap[b]? = some (.map #[] clock)) : Calls Tryz.prog 267 #[.map (some b), .func (.func f) #[] caps] w fun e w' => e = .returned (.tuple #[]) ∧ Below w.heap.size w w' := by
  have hrg := run_range_map (P := Tryz.prog) w 209 198 3 b #[] clock (by kernel_rfl) hb
  have hnx : ∀ ty, (Instr.next (.pointer (some ⟨w.heap.size, 0, none⟩)) false ty).run Tryz.prog (w.alloc (.mapIter (some b) clock #[] clock)) = .ok (.tuple #[.bool false]) (w.alloc (.mapIter (some b) clock #[] clock)) := fun ty => by
    rcases run_next_map (P := Tryz.prog) w ty b clock clock #[] #[] clock hb (fun x hx => by simp at hx) (Nat.le_refl _) with ⟨_, h⟩ | ⟨e, he, _⟩
    · exact h
    · exfalso
      have := left_nil #[]
      simp [leftOf] at he
  go_enter Tryz.func267, Tryz.ntmps267
  go_wp2
  refine wp_loop_rounds 1 ?_
  rw [rounds_succ]
  go_wp2
  go_end0
  exact ⟨rfl, (Below.refl _ w).alloc (Nat.le_refl _) _⟩
end Go.Proofs.YtajhndakkaniaaaGreatDoor
/- Addresses that are sorted by keys which rise: the order is the one of their places. General: no program in sight. -/
namespace Go.Proofs.YtajhndakkaniaaaGreatDoor
open Go.RowKit Go.Shelf Go.Sort

theorem perm_map_inv {α β : Type} {f : α → β} {l l2 : List β} (h : l.Perm l2) : ∀ m : List α, l2 = m.map f → ∃ m' : List α, m'.Perm m ∧ l = m'.map f := by
  induction h with
  | nil =>
    intro m hm
    exact ⟨m, List.Perm.refl _, hm⟩
  | cons x h ih =>
    intro m hm
    cases m with
    | nil => cases hm
    | cons a m =>
      rw [List.map_cons] at hm
      injection hm with h1 h2
      obtain ⟨m', k1, k2⟩ := ih m h2
      exact ⟨a :: m', k1.cons a, by rw [List.map_cons, k2, h1]⟩
  | swap x y l =>
    intro m hm
    cases m with
    | nil => cases hm
    | cons a m =>
      cases m with
      | nil => simp at hm
      | cons b m =>
        simp only [List.map_cons, List.cons.injEq] at hm
        obtain ⟨h1, h2, h3⟩ := hm
        exact ⟨b :: a :: m, List.Perm.swap a b m, by rw [List.map_cons, List.map_cons, h1, h2, h3]⟩
  | trans h1 h2 ih1 ih2 =>
    intro m hm
    obtain ⟨m2, k1, k2⟩ := ih2 m hm
    obtain ⟨m1, k3, k4⟩ := ih1 m2 k2
    exact ⟨m1, k3.trans k1, k4⟩
/-- places are compared -/
def cfF {n : Nat} (i j : Fin n) : Int := if i.val < j.val then -1 else if j.val < i.val then 1 else 0
theorem ltF {n : Nat} (i j : Fin n) : ltOf cfF i j = decide (i.val < j.val) := by
  unfold ltOf cfF
  by_cases h1 : i.val < j.val
  · simp [h1]
  · by_cases h2 : j.val < i.val <;> simp [h1, h2]
theorem swoF {n : Nat} : SWO (ltOf (cfF (n := n))) where
  irrefl x := by rw [ltF]; simp
  trans x y z h1 h2 := by
    rw [ltF] at *
    simp at *
    omega
  ntrans x y z h1 h2 := by
    rw [ltF] at *
    simp at *
    omega
theorem totF {n : Nat} (x y : Fin n) (h1 : ltOf cfF x y = false) (h2 : ltOf cfF y x = false) : x = y := by
  rw [ltF] at *
  simp at *
  omega
theorem sortF {n : Nat} {l : List (Fin n)} (h : l.Perm (List.finRange n)) : (l.mergeSort fun x y => !ltOf cfF y x) = List.finRange n := by
  have e : (fun x y : Fin n => !ltOf cfF y x) = fun x y => decide (x.val ≤ y.val) := by
    funext x y
    rw [ltF]
    by_cases h : x.val ≤ y.val
    · have h' : ¬ y.val < x.val := by omega
      simp [h]
    · have h' : y.val < x.val := by omega
      simp [h, h']
  rw [e]
  refine List.Perm.eq_of_pairwise (le := fun a b : Fin n => a.val ≤ b.val) (fun a b _ _ h1 h2 => Fin.ext (Nat.le_antisymm h1 h2)) ?_ ?_ ((List.mergeSort_perm _ _).trans h)
  · refine (List.pairwise_mergeSort (le := fun x y : Fin n => decide (x.val ≤ y.val)) ?_ ?_ l).imp fun h => of_decide_eq_true h
    · intro a b c h1 h2
      simp at *
      omega
    · intro a b
      simp
      omega
  · rw [List.pairwise_iff_getElem]
    intro i j hi hj hij
    simp only [List.getElem_finRange]
    simpa using Nat.le_of_lt hij
/-- what the row's block holds, sorted -/
theorem sorted_at {α : Type} [Inhabited α] (enc : α → Value) (w : World) (g m : Nat) (d : Array α) (os : Array Obj) {cur : Array Value} {T : TypeId} {fz : Nat × Nat} (hg : w.heap[g]? = some (.cells cur T fz)) (hd : d.size ≤ cur.size) :
    ∃ c, (sortWorld enc w g 0 m d os).heap[g]? = some (.cells c T fz) ∧ c.size = cur.size ∧ ∀ j, j < d.size → c[j]? = some (enc d[j]!) := by
  have hlt := (Array.getElem?_eq_some_iff.1 hg).1
  refine ⟨putCells enc 0 d cur, ?_, by simp [putCells], fun j hj => ?_⟩
  · unfold sortWorld
    rw [heap_grow_old _ _ (by rw [size_putRow]; exact hlt)]
    show (((Sort.ahead w m).heap).modify g (onCells (putCells enc 0 d)))[g]? = _
    rw [Array.getElem?_modify]
    show (if g = g then _ else _) = _
    rw [if_pos rfl]
    show Option.map _ (w.heap[g]?) = _
    rw [hg]
    rfl
  · unfold putCells
    rw [Array.getElem?_mapIdx, Array.getElem?_eq_getElem (by omega)]
    simp [hj]
theorem sorted_other {α : Type} [Inhabited α] (enc : α → Value) (w : World) (g m : Nat) (d : Array α) (os : Array Obj) {b : Nat} (hb : b < w.heap.size) (hne : b ≠ g) : (sortWorld enc w g 0 m d os).heap[b]? = w.heap[b]? := by
  unfold sortWorld
  rw [heap_grow_old _ _ (by rw [size_putRow]; exact hb)]
  show (((Sort.ahead w m).heap).modify g (onCells (putCells enc 0 d)))[b]? = _
  rw [Array.getElem?_modify, if_neg (fun e => hne e.symm)]
  rfl
theorem sorted_size {α : Type} [Inhabited α] (enc : α → Value) (w : World) (g m : Nat) (d : Array α) (os : Array Obj) : w.heap.size ≤ (sortWorld enc w g 0 m d os).heap.size := by
  unfold sortWorld
  rw [size_grow, size_putRow]
  exact Nat.le_add_right _ _
end Go.Proofs.YtajhndakkaniaaaGreatDoor
/- engine.Core.Ins where several come: their order is the one of their keys. -/
namespace Go.Proofs.YtajhndakkaniaaaGreatDoor
open Go.RowKit Go.Shelf Go.Sort

def Tryz.sortIn_ren : Go.Shelf.Ren := ⟨fun | 6 => 294 | 15 => 323 | 14 => 322 | 28 => 350 | 29 => 191 | 20 => 342 | 21 => 343 | 22 => 344 | 23 => 345 | 24 => 346 | 25 => 347 | 26 => 348 | 27 => 349 | 46 => 374 | 47 => 375 | 48 => 376 | 49 => 377 | 50 => 378 | 57 => 387 | n => n, fun | 22 => 397 | 24 => 211 | 25 => 431 | 3 => 3 | 39 => 80 | 0 => 0 | 53 => 341 | 55 => 22 | 4 => 4 | 46 => 475 | 45 => 474 | 50 => 268 | 5 => 5 | 9 => 9 | 66 => 495 | 70 => 235 | 76 => 505 | 77 => 34 | n => n, fun | n => n⟩
theorem Tryz.sortIn : Go.Proofs.SlLaysF.n6 Tryz.prog Tryz.sortIn_ren := {
  mixed := by kernel_rfl,
  f6 := ⟨Tryz.f294.name, by decide, Tryz.func294.trans (congrArg some (by kernel_rfl))⟩,
  f14 := ⟨Tryz.f322.name, by decide, Tryz.func322.trans (congrArg some (by kernel_rfl))⟩,
  f15 := Tryz.func323.trans (congrArg some (by kernel_rfl)),
  f20 := ⟨Tryz.f342.name, by decide, Tryz.func342.trans (congrArg some (by kernel_rfl))⟩,
  f21 := ⟨Tryz.f343.name, by decide, Tryz.func343.trans (congrArg some (by kernel_rfl))⟩,
  f22 := ⟨Tryz.f344.name, by decide, Tryz.func344.trans (congrArg some (by kernel_rfl))⟩,
  f23 := ⟨Tryz.f345.name, by decide, Tryz.func345.trans (congrArg some (by kernel_rfl))⟩,
  f24 := ⟨Tryz.f346.name, by decide, Tryz.func346.trans (congrArg some (by kernel_rfl))⟩,
  f25 := ⟨Tryz.f347.name, by decide, Tryz.func347.trans (congrArg some (by kernel_rfl))⟩,
  f26 := ⟨Tryz.f348.name, by decide, Tryz.func348.trans (congrArg some (by kernel_rfl))⟩,
  f27 := ⟨Tryz.f349.name, by decide, Tryz.func349.trans (congrArg some (by kernel_rfl))⟩,
  f28 := Tryz.func350.trans (congrArg some (by kernel_rfl)),
  f29 := Tryz.func191.trans (congrArg some (by kernel_rfl)),
  f46 := ⟨Tryz.f374.name, by decide, Tryz.func374.trans (congrArg some (by kernel_rfl))⟩,
  f47 := Tryz.func375.trans (congrArg some (by kernel_rfl)),
  f48 := Tryz.func376.trans (congrArg some (by kernel_rfl)),
  f49 := ⟨Tryz.f377.name, by decide, Tryz.func377.trans (congrArg some (by kernel_rfl))⟩,
  f50 := ⟨Tryz.f378.name, by decide, Tryz.func378.trans (congrArg some (by kernel_rfl))⟩,
  f57 := ⟨Tryz.f387.name, by decide, Tryz.func387.trans (congrArg some (by kernel_rfl))⟩,
  t0 := Tryz.underlying0,
  a0 := Tryz.isAgg0,
  z0 := Tryz.sizeOf0,
  v0 := Tryz.zeroValue0,
  t3 := Tryz.underlying3,
  a3 := Tryz.isAgg3,
  z3 := Tryz.sizeOf3,
  v3 := Tryz.zeroValue3,
  t4 := Tryz.underlying4,
  a4 := Tryz.isAgg4,
  z4 := Tryz.sizeOf4,
  v4 := Tryz.zeroValue4,
  t5 := Tryz.underlying5,
  a5 := Tryz.isAgg5,
  z5 := Tryz.sizeOf5,
  v5 := Tryz.zeroValue5,
  t9 := Tryz.underlying9,
  a9 := Tryz.isAgg9,
  z9 := Tryz.sizeOf9,
  v9 := Tryz.zeroValue9,
  t22 := Tryz.underlying397,
  a22 := Tryz.isAgg397,
  z22 := Tryz.sizeOf397,
  v22 := Tryz.zeroValue397,
  a24 := Tryz.isAgg211,
  z24 := Tryz.sizeOf211,
  t25 := Tryz.underlying431,
  a25 := Tryz.isAgg431,
  z25 := Tryz.sizeOf431,
  v25 := Tryz.zeroValue431,
  t39 := Tryz.underlying80,
  a39 := Tryz.isAgg80,
  z39 := Tryz.sizeOf80,
  v39 := Tryz.zeroValue80,
  t45 := Tryz.underlying474,
  a45 := Tryz.isAgg474,
  z45 := Tryz.sizeOf474,
  v45 := Tryz.zeroValue474,
  t46 := Tryz.underlying475,
  a46 := Tryz.isAgg475,
  z46 := Tryz.sizeOf475,
  v46 := Tryz.zeroValue475,
  t50 := Tryz.underlying268,
  a50 := Tryz.isAgg268,
  z50 := Tryz.sizeOf268,
  v50 := Tryz.zeroValue268,
  t53 := Tryz.underlying341,
  a53 := Tryz.isAgg341,
  z53 := Tryz.sizeOf341,
  v53 := Tryz.zeroValue341,
  t55 := Tryz.underlying22,
  a55 := Tryz.isAgg22,
  z55 := Tryz.sizeOf22,
  v55 := Tryz.zeroValue22,
  t66 := Tryz.underlying495,
  a66 := Tryz.isAgg495,
  z66 := Tryz.sizeOf495,
  v66 := Tryz.zeroValue495,
  t70 := Tryz.underlying235,
  a70 := Tryz.isAgg235,
  z70 := Tryz.sizeOf235,
  v70 := Tryz.zeroValue235,
  t76 := Tryz.underlying505,
  a76 := Tryz.isAgg505,
  z76 := Tryz.sizeOf505,
  v76 := Tryz.zeroValue505,
  t77 := Tryz.underlying34,
  a77 := Tryz.isAgg34,
  z77 := Tryz.sizeOf34,
  v77 := Tryz.zeroValue34 }
def cmpI (a b : Int) : Int := if a < b then -1 else if b < a then 1 else 0
def orV (a b : Int) : Int := if a = 0 then b else a
theorem cnan_int (x : Int) (w : World) : Calls Tryz.prog 324 #[.int .i64 x] w fun e w' => e = .returned (.bool false) ∧ w = w' := by
  go_enter Tryz.func324, Tryz.ntmps324
  go_wp2_with fail
  go_ret
  exact ⟨by simp, rfl⟩
theorem compare_int (a b : Int) (w : World) : Calls Tryz.prog 297 #[.int .i64 a, .int .i64 b] w fun e w' => e = .returned (.int .i64 (cmpI a b)) ∧ w = w' := by
  rcases (by omega : a < b ∨ (¬ a < b ∧ b < a) ∨ (¬ a < b ∧ ¬ b < a)) with h | ⟨h, h2⟩ | ⟨h, h2⟩
  · have e1 := Lib.hid (show cmpI a b = -1 from if_pos h)
    go_enter Tryz.func297, Tryz.ntmps297
    go_wp2_with (go_at_call 324; refine (cnan_int _ _).mono ?_; rintro e w' ⟨rfl, rfl⟩)
    go_ret
    exact ⟨by rw [e1.out]; rfl, rfl⟩
  · have e1 := Lib.hid (show cmpI a b = 1 by unfold cmpI; rw [if_neg h, if_pos h2])
    have hd : decide (a < b) = false := decide_eq_false h
    have hd2 : decide (b < a) = true := decide_eq_true h2
    go_enter Tryz.func297, Tryz.ntmps297
    go_wp2_with (go_at_call 324; refine (cnan_int _ _).mono ?_; rintro e w' ⟨rfl, rfl⟩)
    go_ret
    exact ⟨by rw [e1.out]; rfl, rfl⟩
  · have e1 := Lib.hid (show cmpI a b = 0 by unfold cmpI; rw [if_neg h, if_neg h2])
    have hd : decide (a < b) = false := decide_eq_false h
    have hd2 : decide (b < a) = false := decide_eq_false h2
    go_enter Tryz.func297, Tryz.ntmps297
    go_wp2_with (go_at_call 324; refine (cnan_int _ _).mono ?_; rintro e w' ⟨rfl, rfl⟩)
    go_ret
    exact ⟨by rw [e1.out]; rfl, rfl⟩
theorem or_int (a b : Int) (v : Value) (w : World) (h : Rd w 1 v 2 [.int .i64 a, .int .i64 b]) : Calls Tryz.prog 296 #[v] w fun e w' => e = .returned (.int .i64 (orV a b)) ∧ w = w' := by
  have HR := Lib.hid (show Rd w 1 v [a, b].length ([a, b].map (Value.int .i64)) from h)
  clear h
  obtain ⟨x, c, rfl, h1, h2⟩ := HR.out.form
  go_enter Tryz.func296, Tryz.ntmps296
  go_wp2_with fail
  go_loopw [8] (fun i wr => ∃ (k : Nat), i = .int .i64 k ∧ k ≤ 2 ∧ (∀ y ∈ [a, b].take k, y = 0) ∧ w = wr) (fun i _ => 2 - (intOf i).toNat)
  case atStart => exact ⟨0, rfl, by omega, fun y hy => (by simp at hy), rfl⟩
  case round =>
    obtain ⟨k, rfl, hk, ha, rfl⟩ := hrel
    have HA := Lib.hid ha
    clear ha
    rcases (by omega : k = 0 ∨ k = 1 ∨ k = 2) with rfl | rfl | rfl
    · obtain ⟨g, o, rfl, c0⟩ := HR.out.at 0 (by simp)
      have c0 : w.cell? ⟨g, o, none⟩ = some (.int .i64 a) := c0
      by_cases hz : a = 0
      · have hzb : (a != 0) = false := by simp [hz]
        have HZ := Lib.hid hz
        clear hz
        go_wp2_with fail
        go_roundw
        case rel => exact ⟨1, rfl, by omega, fun y hy => by simp at hy; rw [hy]; exact HZ.out, trivial⟩
        case measure => simp [intOf]
      · have hzb : (a != 0) = true := by simp [hz]
        have e1 := Lib.hid (show orV a b = a from if_neg hz)
        clear hz
        go_wp2_with fail
        go_ret
        exact ⟨by rw [e1.out]; rfl, rfl⟩
    · obtain ⟨g, o, rfl, c0⟩ := HR.out.at 1 (by simp)
      have c0 : w.cell? ⟨g, o + 1, none⟩ = some (.int .i64 b) := c0
      have HZA := Lib.hid (HA.out a (by simp))
      have e1 := Lib.hid (show orV a b = b from if_pos HZA.out)
      by_cases hz : b = 0
      · have hzb : (b != 0) = false := by simp [hz]
        have HZ := Lib.hid hz
        clear hz
        go_wp2_with fail
        go_roundw
        case rel => exact ⟨2, rfl, by omega, fun y hy => by simp at hy; rcases hy with rfl | rfl; exact HZA.out; exact HZ.out, trivial⟩
        case measure => simp [intOf]
      · have hzb : (b != 0) = true := by simp [hz]
        clear hz
        go_wp2_with fail
        go_ret
        exact ⟨by rw [e1.out]; rfl, rfl⟩
    · have e1 := Lib.hid (show orV a b = 0 by unfold orV; rw [if_pos (HA.out a (by simp))]; exact HA.out b (by simp))
      go_wp2_with fail
      go_ret
      exact ⟨by rw [e1.out]; rfl, rfl⟩
theorem cnan_u64 (x : Int) (w : World) : Calls Tryz.prog 282 #[.int .u64 x] w fun e w' => e = .returned (.bool false) ∧ w = w' := by
  go_enter Tryz.func282, Tryz.ntmps282
  go_wp2_with fail
  go_ret
  exact ⟨by simp, rfl⟩
theorem compare_u64 (a b : Int) (w : World) : Calls Tryz.prog 251 #[.int .u64 a, .int .u64 b] w fun e w' => e = .returned (.int .i64 (cmpI a b)) ∧ w = w' := by
  rcases (by omega : a < b ∨ (¬ a < b ∧ b < a) ∨ (¬ a < b ∧ ¬ b < a)) with h | ⟨h, h2⟩ | ⟨h, h2⟩
  · have e1 := Lib.hid (show cmpI a b = -1 from if_pos h)
    go_enter Tryz.func251, Tryz.ntmps251
    go_wp2_with (go_at_call 282; refine (cnan_u64 _ _).mono ?_; rintro e w' ⟨rfl, rfl⟩)
    go_ret
    exact ⟨by rw [e1.out]; rfl, rfl⟩
  · have e1 := Lib.hid (show cmpI a b = 1 by unfold cmpI; rw [if_neg h, if_pos h2])
    have hd : decide (a < b) = false := decide_eq_false h
    have hd2 : decide (b < a) = true := decide_eq_true h2
    go_enter Tryz.func251, Tryz.ntmps251
    go_wp2_with (go_at_call 282; refine (cnan_u64 _ _).mono ?_; rintro e w' ⟨rfl, rfl⟩)
    go_ret
    exact ⟨by rw [e1.out]; rfl, rfl⟩
  · have e1 := Lib.hid (show cmpI a b = 0 by unfold cmpI; rw [if_neg h, if_neg h2])
    have hd : decide (a < b) = false := decide_eq_false h
    have hd2 : decide (b < a) = false := decide_eq_false h2
    go_enter Tryz.func251, Tryz.ntmps251
    go_wp2_with (go_at_call 282; refine (cnan_u64 _ _).mono ?_; rintro e w' ⟨rfl, rfl⟩)
    go_ret
    exact ⟨by rw [e1.out]; rfl, rfl⟩
theorem pair_rd (W : World) (a b : Value) (T : TypeId) : Rd (W.alloc (.cells #[a, b] T)).drew 1 (.slice (some ⟨W.heap.size, 0, none⟩) 2 2) 2 [a, b] := .inr ⟨_, 2, rfl, by decide, by decide, rfl, fun j u hj => by
  rw [addr_add, Nat.zero_add]
  show (W.alloc (.cells #[a, b] T)).cell? _ = _
  rw [Ev.cell_of (heap_new W _)]
  rw [← hj]
  exact (Array.getElem?_toList (xs := #[a, b]) (i := j)).symm⟩
set_option maxRecDepth 100000 in
theorem ins_cmp (ga oa gb ob : Nat) (pa ia pb ib : Int) (W : World) (h1 : W.cell? ⟨ga, oa, none⟩ = some (.int .i64 pa)) (h2 : W.cell? ⟨ga, oa + 1, none⟩ = some (.int .u64 ia)) (h3 : W.cell? ⟨gb, ob, none⟩ = some (.int .i64 pb)) (h4 : W.cell? ⟨gb, ob + 1, none⟩ = some (.int .u64 ib)) :
    Calls Tryz.prog 295 #[.pointer (some ⟨ga, oa, none⟩), .pointer (some ⟨gb, ob, none⟩)] W fun e w' => e = .returned (.int .i64 (orV (cmpI pa pb) (cmpI ia ib))) ∧ ∃ q os, w' = Sort.grow (W.drewN q) os := by
  go_enter Tryz.func295, Tryz.ntmps295
  go_wp2_with fail
  have la : ga < W.heap.size := World.block_lt_of_cell? W _ h1
  have lb : gb < W.heap.size := World.block_lt_of_cell? W _ h3
  refine wp_run (M := (fun _ => False)) (stages [([true, true, true, true, true, true, true, true, true, true, false, true, true, true, true, true, true, true, true, true, true, false, false, false, false], 10), ([false, false, false, false, false, false, false, false, false, false, false, false, false, false, false, false, false, false, false, false, false, false, false, false, false], 21), ([false, false, false, false, false, false, false, false, false, false, false, false, false, false, false, false, false, false, false, false, false, false, false, false, false], 22), ([false, false, false, false, false, false, false, false, false, false, false, false, false, false, false, false, false, false, false, false, false, false, false, false, false], 23)] [false, false, false, false, false, false, false, false, false, false, false, false, false, false, false, false, false, false, false, false, false, false, false, false, true]) (by kernel_rfl) (by kernel_rfl) ?_
  refine run_stage rfl ?_
  simp only [pickAt]
  repeat (go_big_quiet_step (fail))
  refine wpQuiet_nil ?_
  refine run_want rfl ?_
  intro A hA
  go_simp
  refine (compare_int _ _ _).mono ?_
  rintro e w' ⟨rfl, rfl⟩
  refine hA _ _ ((Kept.refl _ _)) ?_
  try simp only [Act.put, List.setIfInBounds_toArray, List.set_cons_zero, List.set_cons_succ]
  clear A hA
  refine run_stage rfl ?_
  simp only [pickAt]
  repeat (go_big_quiet_step (fail))
  refine wpQuiet_nil ?_
  refine run_want rfl ?_
  intro A hA
  go_simp
  refine (compare_u64 _ _ _).mono ?_
  rintro e w' ⟨rfl, rfl⟩
  refine hA _ _ ((Kept.refl _ _)) ?_
  try simp only [Act.put, List.setIfInBounds_toArray, List.set_cons_zero, List.set_cons_succ]
  clear A hA
  refine run_stage rfl ?_
  simp only [pickAt]
  repeat (go_big_quiet_step (fail))
  refine wpQuiet_nil ?_
  refine run_want rfl ?_
  intro A hA
  go_simp
  refine hA _ _ (((Kept.refl _ _).alloc _)) ?_
  try simp only [Act.put, List.setIfInBounds_toArray, List.set_cons_zero, List.set_cons_succ]
  clear A hA
  refine run_stage rfl ?_
  simp only [pickAt]
  repeat (go_big_quiet_step (fail))
  refine wpQuiet_nil ?_
  refine run_want rfl ?_
  intro A hA
  go_simp
  refine (or_int _ _ _ _ (pair_rd W _ _ 3)).mono ?_
  rintro e w' ⟨rfl, rfl⟩
  refine hA _ _ ((Kept.refl _ _)) ?_
  try simp only [Act.put, List.setIfInBounds_toArray, List.set_cons_zero, List.set_cons_succ]
  clear A hA
  refine run_last ?_
  simp only [pickAt]
  repeat (go_big_quiet_step (fail))
  refine wpQuiet_nil ?_
  go_wp2_with fail
  go_ret
  exact ⟨rfl, 1, #[.cells #[.int .i64 (cmpI pa pb), .int .i64 (cmpI ia ib)] 3], by
    rw [Sort.alloc_eq_grow]
    rfl⟩
/-- the order by keys is the one of places -/
theorem cmp_keys {n : Nat} {kp ki : Fin n → Int} (hk : ∀ i j : Fin n, i.val < j.val → kp i < kp j ∨ (kp i = kp j ∧ ki i < ki j)) (x y : Fin n) : orV (cmpI (kp x) (kp y)) (cmpI (ki x) (ki y)) = cfF x y := by
  have lt : ∀ {a b : Int}, a < b → cmpI a b = -1 := fun h => if_pos h
  have gt : ∀ {a b : Int}, b < a → cmpI a b = 1 := fun h => by
    unfold cmpI
    rw [if_neg (by omega), if_pos h]
  have eq : ∀ {a b : Int}, a = b → cmpI a b = 0 := fun h => by
    unfold cmpI
    rw [if_neg (by omega), if_neg (by omega)]
  unfold cfF
  by_cases h1 : x.val < y.val
  · rw [if_pos h1]
    rcases hk x y h1 with h | ⟨h, h'⟩
    · rw [lt h]
      rfl
    · rw [eq h, lt h']
      rfl
  · rw [if_neg h1]
    by_cases h2 : y.val < x.val
    · rw [if_pos h2]
      rcases hk y x h2 with h | ⟨h, h'⟩
      · rw [gt h]
        rfl
      · rw [eq h.symm, gt h']
        rfl
    · have : x = y := Fin.ext (by omega)
      subst this
      rw [if_neg h2, eq rfl, eq rfl]
      rfl
theorem sort_ins {n : Nat} {ab ao : Fin (n + 1) → Nat} {kp ki : Fin (n + 1) → Int} (hk : ∀ i j : Fin (n + 1), i.val < j.val → kp i < kp j ∨ (kp i = kp j ∧ ki i < ki j)) {ss : List Addr} (hp : (ss.map ptrOf).Perm ((List.finRange (n + 1)).map fun i => ptrOf ⟨ab i, ao i, none⟩)) {g cap : Nat} {w : World} {cur : Array Value} {T : TypeId}
    (hg : w.heap[g]? = some (.cells cur T (0, 0))) (hrow : cur.toList.take (n + 1) = ss.map ptrOf) (hc : ∀ i, ab i < w.heap.size ∧ ab i ≠ g ∧ w.cell? ⟨ab i, ao i, none⟩ = some (.int .i64 (kp i)) ∧ w.cell? ⟨ab i, ao i + 1, none⟩ = some (.int .u64 (ki i))) (hn : n < 1000) :
    Calls Tryz.prog 294 #[.slice (some ⟨g, 0, none⟩) (n + 1) cap, .func (.func 295) #[] #[]] w fun e w' => e = .returned (.tuple #[]) ∧
      (∃ c, w'.heap[g]? = some (.cells c T (0, 0)) ∧ c.size = cur.size ∧ ∀ i : Fin (n + 1), c[i.val]? = some (ptrOf ⟨ab i, ao i, none⟩)) ∧ w.heap.size ≤ w'.heap.size ∧ (∀ b, b < w.heap.size → b ≠ g → w'.heap[b]? = w.heap[b]?) ∧ w'.os = w.os ∧ w'.tape = w.tape ∧ w'.output = w.output := by
  obtain ⟨d, hd1, hd2⟩ := perm_map_inv hp (List.finRange (n + 1)) rfl
  have hdl : d.length = n + 1 := by rw [hd1.length_eq, List.length_finRange]
  have hlt := (Array.getElem?_eq_some_iff.1 hg).1
  have hcs : n + 1 ≤ cur.size := by
    have := congrArg List.length hrow
    rw [hd2, List.length_map, hdl, List.length_take, Array.length_toList] at this
    omega
  have hsz : d.toArray.size = n + 1 := by simpa using hdl
  have hget : ∀ j, j < n + 1 → cur[j]? = some (ptrOf ⟨ab d.toArray[j]!, ao d.toArray[j]!, none⟩) := fun j hj => by
    have h1 : cur.toList[j]? = (ss.map ptrOf)[j]? := by rw [← hrow, List.getElem?_take_of_lt hj]
    rw [Array.getElem?_toList, hd2, List.getElem?_map, List.getElem?_eq_getElem (by omega)] at h1
    rw [h1]
    simp [hdl, hj]
  have hH : Holds (fun i : Fin (n + 1) => ptrOf ⟨ab i, ao i, none⟩) w g 0 d.toArray := fun j hj => by
    rw [hsz] at hj
    refine ⟨?_, ?_⟩
    · rw [Ev.cell_of hg, Nat.zero_add]
      exact hget j hj
    · exact Ev.frozen_of (st := false) hg (.inl rfl) (by omega)
  have hcmp : CmpLays1 Tryz.prog 295 #[] (fun i : Fin (n + 1) => ptrOf ⟨ab i, ao i, none⟩) cfF g 0 d.toArray.size w := fun m os dk hs x y => by
    have hcell : ∀ i o v, w.cell? ⟨ab i, o, none⟩ = some v → (sortWorld (fun i : Fin (n + 1) => ptrOf ⟨ab i, ao i, none⟩) w g 0 m dk os).cell? ⟨ab i, o, none⟩ = some v := fun i o v hv => by
      rw [← hv]
      exact World.cell?_of_block (sorted_other _ w g m dk os (hc i).1 (hc i).2.1)
    refine (ins_cmp (ab x) (ao x) (ab y) (ao y) (kp x) (ki x) (kp y) (ki y) _ (hcell _ _ _ (hc x).2.2.1) (hcell _ _ _ (hc x).2.2.2) (hcell _ _ _ (hc y).2.2.1) (hcell _ _ _ (hc y).2.2.2)).mono ?_
    rintro e w' ⟨rfl, hw⟩
    exact ⟨by rw [cmp_keys hk], hw⟩
  have eg : ∀ args w, (callFunc 295 args).run Tryz.prog w = .ok (.enter 295 args) w := enters_of Tryz.func295 (by kernel_rfl) rfl
  have key := Any.slices_SortFunc Tryz.sortIn (fun i : Fin (n + 1) => ptrOf ⟨ab i, ao i, none⟩) (fun _ => rfl) cfF swoF 295 #[] g 0 cap d.toArray w eg hcmp hH hlt (by omega)
  rw [hsz] at key
  refine Calls.mono (show Calls Tryz.prog 294 _ _ _ from key) ?_
  rintro e w' ⟨rfl, d', k, os, hpi, hsi, rfl⟩
  have hd' : d' = (List.finRange (n + 1)).toArray := by
    have := sorted_unique_holds swoF totF d.toArray d' (by rw [hsz]; exact hpi) (by rw [hsz]; exact hsi)
    rw [show d.toArray.toList = d from rfl, sortF hd1] at this
    rw [← this]
  subst hd'
  have hfl : (List.finRange (n + 1)).toArray.size = n + 1 := by simp
  obtain ⟨c, c1, c2, c3⟩ := sorted_at (fun i : Fin (n + 1) => ptrOf ⟨ab i, ao i, none⟩) w g k (List.finRange (n + 1)).toArray os hg (by omega)
  refine ⟨rfl, ⟨c, c1, c2, fun i => ?_⟩, sorted_size _ _ _ _ _ _, fun b hb hne => sorted_other _ _ _ _ _ _ hb hne, rfl, rfl, rfl⟩
  rw [c3 i.val (by rw [hfl]; exact i.isLt)]
  simp
namespace Ev
theorem good_of {f : FuncId} {fn : Func} {c : Code} (h1 : Tryz.prog.funcs[f]? = some fn) (h2 : fn.body = some c) (h3 : (fn.name == "runtime.NumGoroutine") = false) : Good Tryz.prog f := ⟨fn, c, h1, h2, h3⟩
noncomputable def calmL (l : List Func) : Bool := List.rec (motive := fun _ => Bool) true (fun f _ ih => match f.name == "runtime.NumGoroutine" with
  | true => false
  | false => ih) l
theorem calmL_ok : ∀ {l : List Func}, calmL l = true → ∀ f ∈ l, (f.name == "runtime.NumGoroutine") = false
  | [], _, f, hf => by cases hf
  | g :: r, h, f, hf => by
    have h : (match g.name == "runtime.NumGoroutine" with
      | true => false
      | false => calmL r) = true := h
    split at h
    · cases h
    · rename_i e
      rcases List.mem_cons.1 hf with rfl | hf
      · exact e
      · exact calmL_ok h f hf
set_option maxRecDepth 100000 in
theorem calm_all : Calm Tryz.prog := fun f fn h => by
  have hc : calmL Tryz.prog.funcs.toList = true := by kernel_rfl
  exact calmL_ok hc fn (List.mem_of_getElem? (i := f) (by rw [Array.getElem?_toList]; exact h))
theorem mixed : Tryz.prog.follows .mixedOrders = true := by kernel_rfl
/-- without anything given -/
noncomputable def ev0 (n : Nat) : Cl := evF Tryz.prog (fun _ => none) (drawD Tryz.prog) n
theorem ev0_ok (B n : Nat) : CallOk Tryz.prog B (ev0 n) := evF_ok (fun f g hf => by cases hf) calm_all (fun _ h => drawD_ok h mixed) n
noncomputable def isTup0 : Option (TV × Hp) → Bool
  | some (.t [], _) => true
  | _ => false
end Ev
set_option maxRecDepth 100000 in
theorem sort_in0_run : Ev.isTup0 (Ev.ev0 20 294 [.s (.c (.k (.slice none 0 0))), .s (.c (.f 295 []))] ⟨.nil, .z⟩) = true := by kernel_rfl
set_option maxRecDepth 100000 in
theorem sort_in0 (w : World) : Calls Tryz.prog 294 #[.slice none 0 0, .func (.func 295) #[] #[]] w fun e w' => e = .returned (.tuple #[]) ∧ Below w.heap.size w w' := by
  obtain ⟨H, h⟩ : ∃ H, Ev.ev0 20 294 [.s (.c (.k (.slice none 0 0))), .s (.c (.f 295 []))] ⟨.nil, .z⟩ = some (.t [], H) := by
    have h := sort_in0_run
    unfold Ev.isTup0 at h
    split at h
    · exact ⟨_, by assumption⟩
    · cases h
  have hno : ∀ x o, (Ev.Hp.mk Ev.Tr.nil Ev.Bn.z).t.get x ≠ some o := fun x o ho => by
    rw [show (Ev.Hp.mk Ev.Tr.nil Ev.Bn.z).t.get x = none from Ev.Tr.get_nil x] at ho
    cases ho
  have sr0 : Ev.SR Tryz.prog w.heap.size (fun _ => none) ⟨.nil, .z⟩ w := ⟨fun x o ho => absurd ho (hno x o), fun x y o q l k ho => absurd ho (hno x o), fun x l hl => by cases hl⟩
  refine ((Ev.ev0_ok w.heap.size 20 _ _ _ _ _ h).2 (fun _ => none) #[.slice none 0 0, .func (.func 295) #[] #[]] w rfl sr0 (Nat.le_refl _)).mono ?_
  rintro e w' ⟨u, φ', rfl, hu, hx⟩
  cases hu
  exact ⟨rfl, hx.os, hx.tape, hx.output, hx.size, fun b hb => hx.frame b hb fun x o l ho => absurd ho (hno x o)⟩
abbrev TInsM : TypeId := 208
theorem values_in (y : Nat) (w : World) : Calls Tryz.prog 293 #[.map (some y)] w fun e w' => e = .returned (.func (.func 321) #[] #[.pointer (some ⟨w.heap.size, 0, none⟩)]) ∧ w' = w.alloc (.cells #[.map (some y)] TInsM) := by
  go_enter Tryz.func293, Tryz.ntmps293
  go_wp2_with fail
  go_ret
  exact ⟨rfl, rfl⟩
theorem ins_walk0 (b s y clock : Nat) (w : World) (hm : w.cell? ⟨b, s + 21, none⟩ = some (.map (some y))) (hy : w.heap[y]? = some (.map #[] clock)) :
    Calls Tryz.prog 269 #[.pointer (some ⟨b, s, none⟩)] w fun e w' => e = .returned (.slice none 0 0) ∧ Below w.heap.size w w' := by
  have hb : b < w.heap.size := World.block_lt_of_cell? w _ hm
  have hyl : y < w.heap.size := (Array.getElem?_eq_some_iff.1 hy).1
  go_enter Tryz.func269, Tryz.ntmps269
  go_wp2_with fail
  refine (values_in y _).mono ?_
  rintro e w1 ⟨rfl, rfl⟩
  go_wp2_with fail
  refine (collect_none w.heap.size 0 y clock _ (by simp) (by simp; omega) (by simp) ((old_of_new _ _ hyl).trans hy)).mono ?_
  rintro e w2 ⟨rfl, hb2⟩
  have HB := Lib.hid (((Below.refl w.heap.size w).alloc (Nat.le_refl _) (.cells #[.map (some y)] TInsM)).trans (hb2.mono (by simp)))
  clear hb2
  go_wp2_with fail
  refine (sort_in0 _).mono ?_
  rintro e w3 ⟨rfl, hb3⟩
  have HB3 := Lib.hid (HB.out.trans (hb3.mono HB.out.size))
  clear hb3
  go_wp2_with fail
  go_ret
  exact ⟨rfl, HB3.out⟩
set_option maxHeartbeats 1000000 in
theorem ins_walk {n : Nat} {ab ao : Fin (n + 1) → Nat} {kp ki : Fin (n + 1) → Int} (hk : ∀ i j : Fin (n + 1), i.val < j.val → kp i < kp j ∨ (kp i = kp j ∧ ki i < ki j)) (b s y clock : Nat) (es : Array MapEntry) (ads : List Addr) (hbo : ∀ x ∈ es.toList, x.born < clock) (hnd : (es.toList.map (·.born)).Nodup) (hv : es.toList.map (·.val) = ads.map ptrOf)
    (hp : (ads.map ptrOf).Perm ((List.finRange (n + 1)).map fun i => ptrOf ⟨ab i, ao i, none⟩)) (hn : n < 1000) (w : World) (hc : ∀ i, ab i < w.heap.size ∧ w.cell? ⟨ab i, ao i, none⟩ = some (.int .i64 (kp i)) ∧ w.cell? ⟨ab i, ao i + 1, none⟩ = some (.int .u64 (ki i))) (hm : w.cell? ⟨b, s + 21, none⟩ = some (.map (some y))) (hy : w.heap[y]? = some (.map es clock)) :
    Calls Tryz.prog 269 #[.pointer (some ⟨b, s, none⟩)] w fun e w' => ∃ g cap c, e = .returned (.slice (some ⟨g, 0, none⟩) (n + 1) cap) ∧ w.heap.size ≤ g ∧ w'.heap[g]? = some (.cells c 211 (0, 0)) ∧ n + 1 ≤ cap ∧ cap ≤ maxLen ∧ c.size = cap ∧ (∀ i : Fin (n + 1), c[i.val]? = some (ptrOf ⟨ab i, ao i, none⟩)) ∧ Below w.heap.size w w' := by
  have hb : b < w.heap.size := World.block_lt_of_cell? w _ hm
  have hyl : y < w.heap.size := (Array.getElem?_eq_some_iff.1 hy).1
  have hal : ads.length = n + 1 := by
    have := hp.length_eq
    rwa [List.length_map, List.length_map, List.length_finRange] at this
  have hsz : es.size = n + 1 := by
    have := congrArg List.length hv
    rw [List.length_map, List.length_map, Array.length_toList] at this
    omega
  have hcol := collect_vals w.heap.size 0 y clock es ads hbo hnd hv (by omega) (w.alloc (.cells #[.map (some y)] TInsM)) (by simp) (by simp; omega) (by simp) ((old_of_new _ _ hyl).trans hy)
  have HC := Lib.hid hc
  have HK := Lib.hid hk
  have HP := Lib.hid hp
  clear hbo hnd hv hc hk hp hy
  go_enter Tryz.func269, Tryz.ntmps269
  go_wp2_with fail
  refine (values_in y _).mono ?_
  rintro e w1 ⟨rfl, rfl⟩
  go_wp2_with fail
  refine hcol.mono ?_
  rintro e w2 ⟨v, ss, rfl, h1, h2, hb2⟩
  have hB2 : Below w.heap.size w w2 := ((Below.refl w.heap.size w).alloc (Nat.le_refl _) (.cells #[.map (some y)] TInsM)).trans (hb2.mono (by simp))
  have hsl : ss.length = n + 1 := by
    have := h1.length_eq
    rwa [List.length_map, List.length_map, hal] at this
  rw [hsl] at h2
  rcases h2.2 with ⟨_, hz0⟩ | ⟨g, cap, cur, rfl, k1, k2, k3, k4, k5, k6⟩
  · omega
  rw [Nat.mul_one] at k5 k6
  have hgn : w.heap.size < g := by
    have : (w.alloc (.cells #[.map (some y)] TInsM)).heap.size ≤ g := k1
    rw [World.size_alloc] at this
    omega
  have hc2 : ∀ i, ab i < w2.heap.size ∧ ab i ≠ g ∧ w2.cell? ⟨ab i, ao i, none⟩ = some (.int .i64 (kp i)) ∧ w2.cell? ⟨ab i, ao i + 1, none⟩ = some (.int .u64 (ki i)) := fun i => by
    obtain ⟨c1, c2, c3⟩ := HC.out i
    exact ⟨Nat.lt_of_lt_of_le c1 hB2.size, by omega, (hB2.cell (p := ⟨ab i, ao i, none⟩) c1).trans c2, (hB2.cell (p := ⟨ab i, ao i + 1, none⟩) c1).trans c3⟩
  have hsort := sort_ins HK.out (h1.trans HP.out) (cap := cap) k2 k6 hc2 hn
  have HB := Lib.hid hB2
  have HF := Lib.hid (And.intro k3 (And.intro k4 k5))
  clear hcol hb2 hB2 h1 h2 k1 k2 k3 k4 k5 k6 hc2 hal hsz hsl
  go_wp2_with fail
  refine hsort.mono ?_
  rintro e w3 ⟨rfl, ⟨c, c1, c2, c3⟩, q1, q2, q3, q4, q5⟩
  have HE := Lib.hid (And.intro c1 (And.intro c2 (And.intro c3 (And.intro q1 (And.intro q2 (And.intro q3 (And.intro q4 q5)))))))
  clear hsort c1 c2 c3 q1 q2 q3 q4 q5
  go_wp2_with fail
  go_ret
  obtain ⟨c1, c2, c3, q1, q2, q3, q4, q5⟩ := HE.out
  refine ⟨g, cap, c, rfl, Nat.le_of_lt hgn, c1, HF.out.1, HF.out.2.1, by rw [c2]; exact HF.out.2.2, c3, ?_⟩
  exact ⟨q3.trans HB.out.os, q4.trans HB.out.tape, q5.trans HB.out.output, Nat.le_trans HB.out.size q1, fun k hk => by
    rw [q2 k (Nat.lt_of_lt_of_le hk HB.out.size) (by omega)]
    exact HB.out.block k hk⟩
namespace Ev
/-- what comes: its keys, and where it lies -/
structure InE where
  p : Int
  i : Int
  x : Bn
  o : Nat
noncomputable def insOne (H : Hp) (c : CV) : Option InE := match c with
  | .p x o => match H.cells x with
    | some (_, _, cs) => match nth cs o with
      | some (.k (.int .i64 p)) => match nth cs (o + 1) with
        | some (.k (.int .u64 i)) => some ⟨p, i, x, o⟩
        | _ => none
      | _ => none
    | none => none
  | _ => none
noncomputable def insAll (H : Hp) : List (List CV × CV) → Option (List InE)
  | [] => some []
  | a :: r => match insOne H a.2 with
    | some e => match insAll H r with
      | some l => some (e :: l)
      | none => none
    | none => none
noncomputable def inLt (a b : InE) : Bool := match decide (a.p < b.p) with
  | true => true
  | false => match decide (a.p = b.p) with
    | true => decide (a.i < b.i)
    | false => false
theorem inLt_ok {a b : InE} (h : inLt a b = true) : a.p < b.p ∨ (a.p = b.p ∧ a.i < b.i) := by
  unfold inLt at h
  split at h
  · rename_i e
    exact .inl (of_decide_eq_true e)
  · split at h
    · rename_i e
      exact .inr ⟨of_decide_eq_true e, of_decide_eq_true h⟩
    · cases h
noncomputable def inPut (a : InE) : List InE → List InE
  | [] => [a]
  | b :: r => match inLt a b with
    | true => a :: b :: r
    | false => b :: inPut a r
noncomputable def inSort : List InE → List InE
  | [] => []
  | a :: r => inPut a (inSort r)
noncomputable def inUp : List InE → Bool
  | [] => true
  | a :: r => r.all (inLt a) && inUp r
theorem inPut_perm (a : InE) : ∀ (l : List InE), (inPut a l).Perm (a :: l)
  | [] => List.Perm.refl _
  | b :: r => by
    unfold inPut
    split
    · exact List.Perm.refl _
    · exact ((inPut_perm a r).cons b).trans (List.Perm.swap a b r)
theorem inSort_perm : ∀ (l : List InE), (inSort l).Perm l
  | [] => List.Perm.refl _
  | a :: r => (inPut_perm a (inSort r)).trans ((inSort_perm r).cons a)
theorem inUp_ok : ∀ {l : List InE}, inUp l = true → l.Pairwise fun a b => inLt a b = true
  | [], _ => List.Pairwise.nil
  | a :: r, h => by
    have h : (r.all (inLt a) && inUp r) = true := h
    rw [Bool.and_eq_true, List.all_eq_true] at h
    exact List.pairwise_cons.2 ⟨h.1, inUp_ok h.2⟩
/-- where one lies -/
noncomputable def inAd (φ : Ren) (e : InE) : Addr := match φ e.x with
  | some l => ⟨l.b, l.s + e.o, none⟩
  | none => ⟨0, 0, none⟩
noncomputable def InOk (φ : Ren) (w : World) (e : InE) : Prop := ∃ l : Loc, φ e.x = some l ∧ l.b < w.heap.size ∧ w.cell? ⟨l.b, l.s + e.o, none⟩ = some (.int .i64 e.p) ∧ w.cell? ⟨l.b, l.s + e.o + 1, none⟩ = some (.int .u64 e.i)
section
variable {P : Program} {B : Nat} {φ : Ren} {H : Hp} {w : World}
theorem insOne_ok (sr : SR P B φ H w) {c : CV} {e : InE} (h : insOne H c = some e) : c = .p e.x e.o ∧ InOk φ w e := by
  unfold insOne at h
  split at h
  · rename_i x o
    split at h
    · rename_i T st cs hx
      split at h
      · rename_i p h1
        split at h
        · rename_i i h2
          cases h
          refine ⟨rfl, ?_⟩
          obtain ⟨l, arr, fz, ti, k1, k2, _, _, _, _, k7, _⟩ := sr.block hx
          rw [nth_eq] at h1 h2
          obtain ⟨v1, m1, m2⟩ := k7 _ _ h1
          obtain ⟨v2, n1, n2⟩ := k7 _ _ h2
          cases m2
          cases n2
          exact ⟨l, k1, sr.lt (Hp.cells_get hx) k1, by rw [cell_of k2]; exact m1, by rw [cell_of k2, Nat.add_assoc]; exact n1⟩
        · cases h
      · cases h
    · cases h
  · cases h
theorem insAll_ok (sr : SR P B φ H w) : ∀ {es : List (List CV × CV)} {l : List InE}, insAll H es = some l → (∀ e ∈ l, InOk φ w e) ∧ ∀ {clock : Nat} {ms : List MapEntry}, mapR φ clock es ms → ms.map (·.val) = (l.map (inAd φ)).map ptrOf
  | [], l, h => by
    cases h
    refine ⟨fun e he => absurd he List.not_mem_nil, fun {clock ms} hm => ?_⟩
    cases ms with
    | nil => rfl
    | cons a r => exact hm.elim
  | a :: r, l, h => by
    simp only [insAll] at h
    split at h
    · rename_i e he
      split at h
      · rename_i l' hl
        cases h
        obtain ⟨h1, h2⟩ := insOne_ok sr he
        obtain ⟨ih1, ih2⟩ := insAll_ok sr hl
        refine ⟨fun q hq => ?_, fun {clock ms} hm => ?_⟩
        · rcases List.mem_cons.1 hq with rfl | hq
          · exact h2
          · exact ih1 q hq
        · cases ms with
          | nil => exact hm.elim
          | cons m ms =>
            obtain ⟨_, hv, _, _, hr⟩ := hm
            rw [List.map_cons, List.map_cons, List.map_cons, ih2 hr]
            congr 1
            obtain ⟨lx, e1, _⟩ := h2
            rw [h1] at hv
            simp only [cvV, ptrV, e1] at hv
            injection hv with hv
            rw [← hv]
            simp only [inAd, e1]
      · cases h
    · cases h
theorem mapR.born {clock : Nat} : ∀ {l : List (List CV × CV)} {ms : List MapEntry}, mapR φ clock l ms → (∀ x ∈ ms, x.born < clock) ∧ (ms.map (·.born)).Nodup
  | [], [], _ => ⟨fun x hx => absurd hx List.not_mem_nil, List.nodup_nil⟩
  | _ :: _, m :: ms, ⟨_, _, h4, h5, h6⟩ => by
    obtain ⟨i1, i2⟩ := mapR.born h6
    refine ⟨fun x hx => ?_, ?_⟩
    · rcases List.mem_cons.1 hx with rfl | hx
      · exact h4
      · exact i1 x hx
    · rw [List.map_cons, List.nodup_cons]
      refine ⟨fun hm => ?_, i2⟩
      obtain ⟨x, hx, hb⟩ := List.mem_map.1 hm
      have := h5 x hx
      omega
  | [], _ :: _, h => h.elim
  | _ :: _, [], h => h.elim
end
noncomputable def insP : List TV → Hp → Option (TV × Hp) := fun a H => match a with
  | [.s (.c (.p b q))] => match H.cells b with
    | some (_, _, cs) => match nth cs (q + 21) with
      | some (.m y) => match H.mp y with
        | some es => match insAll H es with
          | some l => match inSort l with
            | [] => some (.s (.c (.k (.slice none 0 0))), H)
            | e :: r => match inUp (e :: r) && Nat.blt r.length 1000 with
              | true => some (.s (.c (.s H.nx 0 0 (r.length + 1) 0)), H.new (.cells 211 false ((e :: r).map fun e => .p e.x e.o)))
              | false => none
          | none => none
        | none => none
      | _ => none
    | none => none
  | _ => none
set_option maxHeartbeats 1000000 in
theorem insP_ok {l : List TV} {H H' : Hp} {v : TV} (h : insP l H = some (v, H')) {B : Nat} {φ : Ren} {args : Array Value} {w : World} (ha : tvsV φ l = some args.toList) (sr : SR Tryz.prog B φ H w) (hB : B ≤ w.heap.size) :
    Calls Tryz.prog 269 args w fun e w' => ∃ u φ', e = .returned u ∧ tvV φ' v = some u ∧ Ext Tryz.prog B φ H w φ' H' w' := by
  unfold insP at h
  split at h
  · rename_i b q
    split at h
    · rename_i T st cs hx
      split at h
      · rename_i y hc
        obtain ⟨lb, u, h1, h2, h3, h4⟩ := cell_some sr hx hc
        simp only [tvsV, tvV, svV, cvV, ptrV, h1] at ha
        injection ha with ha
        have := Array.ext' (ys := #[Value.pointer (some ⟨lb.b, lb.s + q, none⟩)]) ha.symm
        subst this
        split at h
        · rename_i es hes
          obtain ⟨ly, ms, clock, m1, m2, m3, _⟩ := sr.map hes
          simp only [cvV, m1] at h3
          cases h3
          obtain ⟨hbo, hnd⟩ := mapR.born m3
          rw [← Nat.add_assoc] at h2
          split at h
          · rename_i l hl
            obtain ⟨hok, hval⟩ := insAll_ok sr hl
            have hval := hval m3
            have hperm := inSort_perm l
            split at h
            · rename_i hs
              cases h
              rw [hs] at hperm
              have : l = [] := List.nil_perm.1 hperm
              subst this
              have e0 : ms = #[] := by
                have := congrArg List.length hval
                exact Array.eq_empty_of_size_eq_zero (by simpa using this)
              subst e0
              refine (ins_walk0 lb.b (lb.s + q) ly.b clock w h2 m2).mono ?_
              rintro e w' ⟨rfl, hb⟩
              exact ⟨_, φ, rfl, rfl, Ext.of_below sr hb⟩
            · rename_i e r hs
              split at h
              · rename_i hup
                rw [Bool.and_eq_true, Nat.blt_eq] at hup
                cases h
                rw [hs] at hperm
                have hpw := List.pairwise_iff_getElem.1 (inUp_ok hup.1)
                have hokS : ∀ a ∈ e :: r, InOk φ w a := fun a ha => hok a (hperm.mem_iff.1 ha)
                have hle := sr.le_name
                have hp2 : ((l.map (inAd φ)).map ptrOf).Perm ((List.finRange (r.length + 1)).map fun i => ptrOf ⟨(inAd φ (e :: r)[i.val]).block, (inAd φ (e :: r)[i.val]).off, none⟩) := by
                  refine ((hperm.symm.map _).map _).trans (List.Perm.of_eq ?_)
                  refine List.ext_getElem (by simp) fun j h1 h2 => ?_
                  simp only [List.getElem_map, List.getElem_finRange]
                  have hj : j < (e :: r).length := by simpa using h1
                  obtain ⟨lo, e1, _⟩ := hokS _ (List.getElem_mem hj)
                  simp only [inAd]
                  simp [e1]
                have hcell : ∀ i : Fin (r.length + 1), (inAd φ (e :: r)[i.val]).block < w.heap.size ∧ w.cell? ⟨(inAd φ (e :: r)[i.val]).block, (inAd φ (e :: r)[i.val]).off, none⟩ = some (.int .i64 (e :: r)[i.val].p) ∧ w.cell? ⟨(inAd φ (e :: r)[i.val]).block, (inAd φ (e :: r)[i.val]).off + 1, none⟩ = some (.int .u64 (e :: r)[i.val].i) := fun i => by
                  have hj : i.val < (e :: r).length := by simp
                  obtain ⟨lo, e1, e2, e3, e4⟩ := hokS _ (List.getElem_mem hj)
                  have e0 : inAd φ (e :: r)[i.val] = ⟨lo.b, lo.s + (e :: r)[i.val].o, none⟩ := by unfold inAd; rw [e1]
                  rw [e0]
                  exact ⟨e2, e3, e4⟩
                refine (ins_walk (n := r.length) (ab := fun i => (inAd φ (e :: r)[i.val]).block) (ao := fun i => (inAd φ (e :: r)[i.val]).off) (kp := fun i => (e :: r)[i.val].p) (ki := fun i => (e :: r)[i.val].i) (fun i j hij => inLt_ok (hpw i.val j.val (by simp) (by simp) hij)) lb.b (lb.s + q) ly.b clock ms (l.map (inAd φ)) hbo hnd hval hp2 hup.2 w hcell h2 m2).mono ?_
                rintro e1 w' ⟨g, cap, c, rfl, k1, k2, k3, k4, k5, k6, hb⟩
                obtain ⟨i0, hi, hz0, hz1, hz2⟩ := info_parts info_in
                have hx' := (Ext.of_below sr hb).adoptP (l := ⟨g, 0, cap⟩) (a := .cells 211 false ((e :: r).map fun e => .p e.x e.o)) k2 ⟨c, (0, 0), i0, rfl, hi, by show 0 + cap * i0.size ≤ _; rw [hz1]; omega, ⟨by rw [hz1, List.length_map, List.length_cons]; show _ ≤ cap * 1; omega, by show cap ≤ 9223372036854775807; unfold maxLen at *; omega⟩, .inl rfl, fun j cc hj => by
                  rw [List.getElem?_map] at hj
                  have hjl : j < (e :: r).length := by
                    rcases Nat.lt_or_ge j (e :: r).length with q | q
                    · exact q
                    · rw [List.getElem?_eq_none q] at hj
                      cases hj
                  rw [List.getElem?_eq_getElem hjl] at hj
                  cases hj
                  obtain ⟨lo, e1, _⟩ := hokS _ (List.getElem_mem hjl)
                  refine ⟨_, by rw [Nat.zero_add]; exact k6 ⟨j, by simpa using hjl⟩, ?_⟩
                  simp only [cvV, ptrV, hle ⟨g, 0, cap⟩ _ _ e1, inAd, e1]⟩ k1 (fun x o k hx hk => Nat.ne_of_lt (Nat.lt_of_lt_of_le (sr.lt hx hk) k1)) hB
                refine ⟨_, _, rfl, ?_, hx'⟩
                simp only [tvV, svV, cvV, name_same]
                rw [if_pos (by omega)]
                simp
              · cases h
          · cases h
        · cases h
      · cases h
    · cases h
  · cases h
end Ev
end Go.Proofs.YtajhndakkaniaaaGreatDoor
