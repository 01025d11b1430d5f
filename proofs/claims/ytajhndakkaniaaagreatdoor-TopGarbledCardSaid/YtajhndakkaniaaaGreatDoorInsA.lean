/- slices.Collect over the values of a map: its addresses, in some order. -/
import Derived.Test.YtajhndakkaniaaaGreatDoorTopCol
import Derived.Maps.RangeRun
import Derived.Maps.Range
namespace Go.Proofs.YtajhndakkaniaaaGreatDoor
open Go.RowKit Go.Shelf Go.MapKept
open Go.ChangeMaps (setBlock)

attribute [local go_sem] Oper.semAt_some

theorem old_of_new (w : World) (o : Obj) {r : Nat} (h : r < w.heap.size) : (w.alloc o).heap[r]? = w.heap[r]? := by
  show (w.heap.push o)[r]? = _
  rw [Array.getElem?_push_lt h, Array.getElem?_eq_getElem h]
theorem new_of_new (w : World) (o : Obj) : (w.alloc o).heap[w.heap.size]? = some o := by
  show (w.heap.push o)[w.heap.size]? = _
  simp
abbrev ptrOf (a : Addr) : Value := .pointer (some a)
theorem perm_born : ∀ {l : List MapEntry} {e : MapEntry}, (l.map (·.born)).Nodup → e ∈ l → l.Perm (e :: l.filter fun x => !(x.born == e.born))
  | [], _, _, h => by cases h
  | a :: r, e, hn, he => by
    rw [List.map_cons, List.nodup_cons] at hn
    rcases List.mem_cons.1 he with rfl | he
    · have : r.filter (fun x => !(x.born == e.born)) = r := List.filter_eq_self.2 fun x hx => by
        have : x.born ≠ e.born := fun q => hn.1 (by rw [← q]; exact List.mem_map_of_mem hx)
        simpa using this
      rw [List.filter_cons_of_neg (by simp), this]
    · have hne : a.born ≠ e.born := fun q => hn.1 (by rw [q]; exact List.mem_map_of_mem he)
      rw [List.filter_cons_of_pos (by simpa using hne)]
      exact ((perm_born hn.2 he).cons a).trans (List.Perm.swap e a _)
theorem left_push (es : Array MapEntry) (seen : Array Nat) (b : Nat) : (leftOf es (seen.push b)).toList = (leftOf es seen).toList.filter fun x => !(x.born == b) := by
  unfold leftOf
  rw [Array.toList_filter, Array.toList_filter, List.filter_filter]
  congr 1
  funext x
  rw [contains_push, Bool.not_or, Bool.and_comm]
theorem left_nodup {es : Array MapEntry} (seen : Array Nat) (h : (es.toList.map (·.born)).Nodup) : ((leftOf es seen).toList.map (·.born)).Nodup := by
  unfold leftOf
  rw [Array.toList_filter]
  exact (List.filter_sublist.map _).nodup h
theorem left_all (es : Array MapEntry) : (leftOf es #[]).toList = es.toList := by
  unfold leftOf
  rw [Array.toList_filter]
  exact List.filter_eq_self.2 fun x _ => by simp
def bothK (n₀ : Nat) (W W' : World) : Prop := Below n₀ W W' ∧ KeepsWalks W W'
theorem bothK_t {n₀ : Nat} {A B C : World} (h : bothK n₀ A B) (k : bothK n₀ B C) : bothK n₀ A C := ⟨h.1.trans k.1, h.2.trans k.2⟩
theorem bothK_b {n₀ : Nat} {w : World} (hn : n₀ ≤ w.heap.size) (W : World) (l : Nat) (o o' : Obj) (hl : w.heap.size ≤ l) (h : W.heap[l]? = some o) (h1 : o.isCells = false) (h2 : o.isWalk = false) : bothK n₀ W (W.putObj l o') := ⟨belowK_b hn W l o o' hl h h1 h2, walksK_b W l o o' hl h h1 h2⟩

set_option maxHeartbeats 1000000 in
/-- the closure of maps.Values -/
theorem valuesM (F : Fence) (n : Nat) (hf : F.fn 321) (hro : F.round = none) (hn : 1 ≤ n) (l Bm q b clock n₀ : Nat) (es : Array MapEntry) (ads : List Addr)
    (hbo : ∀ x ∈ es.toList, x.born < clock) (hnd : (es.toList.map (·.born)).Nodup) (hv : es.toList.map (·.val) = ads.map ptrOf) (hbn : b < n₀) (J Jx : List Addr → World → Prop)
    (hY : ∀ pre x W, J pre W → pre.length < es.size → YieldAt F (n - 1) Tryz.prog l #[ptrOf x] W fun e W' =>
      (e = .returned (.bool true) ∧ J (pre ++ [x]) W' ∧ bothK n₀ W W') ∨ (e = .returned (.bool false) ∧ Jx (pre ++ [x]) W'))
    (W : World) (hW : n₀ ≤ W.heap.size) (hJ : AbidesFrom W.heap.size J) (hm : W.cell? ⟨Bm, q, none⟩ = some (.map (some b))) (hb : W.heap[b]? = some (.map es clock)) (h0 : J [] W) :
    CallsIn F n Tryz.prog 321 #[.func (.yield l) #[] #[], .pointer (some ⟨Bm, q, none⟩)] W fun e W' => (∃ v, e = .returned v) ∧
      ((∃ ss : List Addr, (ss.map ptrOf).Perm (ads.map ptrOf) ∧ J ss W') ∨ (∃ pre, True ∧ Jx pre W')) := by
  refine callsIn_of_wp Tryz.func321 rfl hf ?_ hro
  simp only [Tryz.ntmps321, List.size_toArray, List.length_cons, List.length_nil, Nat.reduceAdd, Nat.reduceSub, Array.replicate_succ, Array.replicate_zero, List.push_toArray, List.append_toArray, List.nil_append, List.cons_append]
  have hrg := run_range_map (P := Tryz.prog) W 208 198 211 b es clock (by kernel_rfl) hb
  gi_wp2
  have hbW : b ≠ W.heap.size := by omega

  gi_loopw [4] (fun _ wr => ∃ (seen : Array Nat) (c0 : Nat) (ss : List Addr), wr.heap[W.heap.size]? = some (.mapIter (some b) clock seen c0) ∧ clock ≤ c0 ∧ wr.heap[b]? = some (.map es clock) ∧ (ss.map ptrOf ++ (leftOf es seen).toList.map (·.val)).Perm (ads.map ptrOf) ∧ J ss wr)
    (fun _ wr => (leftOf es (wr.iterSeen W.heap.size)).size)
  case atStart =>
    refine ⟨#[], clock, [], new_of_new _ _, Nat.le_refl _, (old_of_new _ _ (by omega)).trans hb, ?_, hJ [] W _ none h0 (World.grownBy_alloc W _ none) (fun r e => by cases e)⟩
    rw [left_all, hv]
    exact List.Perm.refl _
  case round =>
    obtain ⟨seen, c0, ss, hit, hc0, hbm, hpm, hJs⟩ := hrel
    rcases run_next_at (P := Tryz.prog) wr 0 W.heap.size b clock c0 seen es clock hit hbm hbo hc0 with ⟨hl0, hrun⟩ | ⟨e, he, w1, hal, hrun⟩
    · have hnx : ∀ ty, (Instr.next (.pointer (some ⟨W.heap.size, 0, none⟩)) false ty).run Tryz.prog wr = .ok (.tuple #[.bool false]) wr := fun ty => hrun
      clear hrun
      gi_wp2
      go_end0
      refine ⟨⟨_, rfl⟩, .inl ⟨ss, ?_, hJs⟩⟩
      have : (leftOf es seen).toList = [] := by
        apply List.eq_nil_of_length_eq_zero
        rw [Array.length_toList]
        exact hl0
      rw [this, List.map_nil, List.append_nil] at hpm
      exact hpm
    · obtain ⟨hem, hes⟩ := mem_left he
      obtain ⟨x, hx⟩ : ∃ x, e.val = ptrOf x := by
        have : e.val ∈ ads.map ptrOf := by rw [← hv]; exact List.mem_map_of_mem hem
        obtain ⟨x, _, hx⟩ := List.mem_map.1 this
        exact ⟨x, hx.symm⟩
      have hr1 : w1.heap[W.heap.size]? = some (.mapIter (some b) clock seen c0) := by rcases hal with rfl | rfl <;> exact hit
      have hb1 : w1.heap[b]? = some (.map es clock) := by rcases hal with rfl | rfl <;> exact hbm
      have hset := heap_set (o' := .mapIter (some b) clock (seen.push e.born) clock) hr1
      have hg2 : wr.grownBy (setBlock w1 W.heap.size (.mapIter (some b) clock (seen.push e.born) clock)) (some W.heap.size) := by
        rcases hal with rfl | rfl <;> exact ⟨rfl, rfl, rfl, by simp [setBlock], fun i _ hi => hset.2 i (fun e1 => hi (by rw [e1]))⟩
      obtain ⟨w2, hw2⟩ : ∃ w2, setBlock w1 W.heap.size (.mapIter (some b) clock (seen.push e.born) clock) = w2 := ⟨_, rfl⟩
      have hit2 : (setBlock w1 W.heap.size (.mapIter (some b) clock (seen.push e.born) clock)).heap[W.heap.size]? = some (.mapIter (some b) clock (seen.push e.born) clock) := hset.1
      have hbm2 : (setBlock w1 W.heap.size (.mapIter (some b) clock (seen.push e.born) clock)).heap[b]? = some (.map es clock) := (hset.2 b hbW).trans hb1
      rw [hw2] at hrun hg2 hit2 hbm2
      have hnx : ∀ ty, (Instr.next (.pointer (some ⟨W.heap.size, 0, none⟩)) false ty).run Tryz.prog wr = .ok (.tuple #[.bool true, e.key, ptrOf x]) w2 := fun ty => by rw [← hx]; exact hrun
      have hJ2 : J ss w2 := hJ ss wr w2 (some W.heap.size) hJs hg2 (fun r e => by cases e; exact ⟨Nat.le_refl _, _, hit, rfl⟩)
      have hp1 := perm_born (left_nodup seen hnd) he
      have hlen : ss.length < es.size := by
        have h1 := hpm.length_eq
        have h2 := congrArg List.length hv
        have h3 := hp1.length_eq
        simp only [List.length_append, List.length_map, List.length_cons, Array.length_toList] at h1 h2 h3
        omega
      obtain ⟨fn, tmps, assign, body, hy, hR⟩ := hY ss x w2 hJ2 hlen
      clear hset hrun hw2
      have hent := run_entry_at (P := Tryz.prog) w2 W.heap.size b clock seen es clock e hit2 hbm2 hem hnd
      rw [hx] at hent
      gi_wp2
      refine hR.mono ?_
      rintro e3 W3 (⟨rfl, hJ3, hk3, hk4⟩ | ⟨rfl, hJx3⟩)
      · gi_wp2
        have hit3 := hk4.same _ _ hit2 rfl
        have hbm3 := (hk3.block b hbn).trans hbm2
        have hl : (leftOf es (seen.push e.born)).toList = (leftOf es seen).toList.filter fun x => !(x.born == e.born) := left_push es seen e.born
        go_roundw
        case rel =>
          refine ⟨seen.push e.born, clock, ss ++ [x], hit3, Nat.le_refl _, hbm3, ?_, hJ3⟩
          refine List.Perm.trans ?_ hpm
          rw [hl, List.map_append, List.append_assoc]
          refine List.Perm.append_left _ ?_
          have := (hp1.map (·.val)).symm
          rw [List.map_cons, hx] at this
          exact this
        case measure =>
          have e1 : W3.iterSeen W.heap.size = seen.push e.born := by unfold World.iterSeen; rw [hit3]
          have e2 : wr.iterSeen W.heap.size = seen := by unfold World.iterSeen; rw [hit]
          rw [e1, e2]
          exact left_shrinks es seen e he
      · gi_wp2
        refine bodyPost_ret (results_none rfl _ _ _) rfl ?_
        exact ⟨⟨_, rfl⟩, .inr ⟨_, trivial, hJx3⟩⟩
theorem valuesM_stops (F : Fence) (n : Nat) (hf : F.fn 321) (hro : F.round = none) (hn : 1 ≤ n) (Bm q b clock n₀ : Nat) (es : Array MapEntry) (ads : List Addr)
    (hbo : ∀ x ∈ es.toList, x.born < clock) (hnd : (es.toList.map (·.born)).Nodup) (hv : es.toList.map (·.val) = ads.map ptrOf) (hbn : b < n₀) (w : World) (hn₀ : n₀ ≤ w.heap.size) (hBm : Bm < w.heap.size)
    (hm : w.cell? ⟨Bm, q, none⟩ = some (.map (some b))) (hb : w.heap[b]? = some (.map es clock)) :
    SeqStopsK F n Tryz.prog 321 #[.pointer (some ⟨Bm, q, none⟩)] (fun x : Addr => #[ptrOf x]) (bothK n₀) (fun ss => (ss.map ptrOf).Perm (ads.map ptrOf)) (fun _ => True) es.size w := fun l J Jx W hW hJ _ hY h0 =>
  valuesM F n hf hro hn l Bm q b clock n₀ es ads hbo hnd hv hbn J Jx hY W (Nat.le_trans hn₀ hW.size) hJ ((hW.cell (p := ⟨Bm, q, none⟩) hBm).trans hm) ((hW.block b (by omega)).trans hb) h0
theorem info_in : (Tryz.prog.info? 211).map (fun i => (i.zero, i.size, i.bytes)) = some (some (.pointer none), 1, 8) := by kernel_rfl

set_option maxRecDepth 100000 in
set_option maxHeartbeats 2000000 in
theorem append_vals (F : Fence) (n : Nat) (ha : F.fn 320) (hf : F.fn 321) (hro : F.round = none) (hn : 3 ≤ n) (Bm q b clock : Nat) (es : Array MapEntry) (ads : List Addr)
    (hbo : ∀ x ∈ es.toList, x.born < clock) (hnd : (es.toList.map (·.born)).Nodup) (hv : es.toList.map (·.val) = ads.map ptrOf) (hreach : es.size * 8 ≤ 140737488351232) (w : World) (hBm : Bm < w.heap.size) (hbw : b < w.heap.size)
    (hm : w.cell? ⟨Bm, q, none⟩ = some (.map (some b))) (hb : w.heap[b]? = some (.map es clock)) :
    CallsIn F n Tryz.prog 320 #[.slice none 0 0, .func (.func 321) #[] #[.pointer (some ⟨Bm, q, none⟩)]] w fun e W' => ∃ v ss, e = .returned v ∧ (List.map ptrOf ss).Perm (ads.map ptrOf) ∧ W'.ownsRow w.heap.size 211 1 v ss.length (ss.map ptrOf) ∧ Below w.heap.size w W' := by
  have h1 : 1 ≤ n := by omega
  obtain ⟨i0, hi, hz0, hz1, hz2⟩ := info_parts info_in
  refine callsIn_of_wp_marks Tryz.func320 rfl ha ?_ hro
  simp only [Tryz.ntmps320, List.size_toArray, List.length_cons, List.length_nil, Nat.reduceAdd, Nat.reduceSub, Array.replicate_succ, Array.replicate_zero, List.push_toArray, List.append_toArray, List.nil_append, List.cons_append]
  gi_wp2
  have bS := Boxed.new w 397 (.slice none 0 0)
  have hB0 : Below w.heap.size w (w.alloc (.cells #[.slice none 0 0] 397)) := (Below.refl _ w).alloc (Nat.le_refl _) _
  refine wpIn_rangeFunc_ownG hro h1 (gf := 321) (lb := #[.pointer (some ⟨Bm, q, none⟩)]) rfl hf (enters_of Tryz.func321 (by kernel_rfl) rfl)
    (valuesM_stops F (n - 1) hf hro (by omega) Bm q b clock w.heap.size es ads hbo hnd hv hbw _ (by simp) (by simp; omega) ((hB0.cell (p := ⟨Bm, q, none⟩) hBm).trans hm) ((hB0.block b hbw).trans hb)) bothK_t (bothK_b (by simp)) (Below.refl _ _) (fun _ => rfl)
    (fun pre W => (∃ v, Boxed W w.heap.size 397 v ∧ W.ownsRow w.heap.size 211 1 v pre.length (pre.map ptrOf) ∧ True) ∧ Below w.heap.size w W)
    (fun _ _ _ => False)
    (OwnFrom.and (Own.from (holdsRow_own w.heap.size w.heap.size 397 211 1 (fun s : List Addr => s.length) (fun s => s.map ptrOf) (fun _ _ => True)) _) (ownFrom_below (Nat.le_refl _) (by simp)))
    (fun _ _ _ _ _ hs _ _ => hs)
    ⟨⟨_, bS, ⟨rfl, .inl ⟨rfl, rfl⟩⟩, trivial⟩, hB0⟩
    (fun x => { tmps := #[.slice none 0 0, .func (.func 321) #[] #[.pointer (some ⟨Bm, q, none⟩)], .pointer (some ⟨w.heap.size, 0, none⟩), undef, .slice none 0 0, ptrOf x, .func (.func 321) #[] #[.pointer (some ⟨Bm, q, none⟩)], ptrOf x, undef, undef, undef, undef, undef], defers := [] }) ?assign ?body ?done ?stop
  case assign =>
    intro l x W K hK
    gi_wp2
    exact hK
  case body =>
    rintro l pre x W ⟨⟨v, hv, hrow, _⟩, hB⟩ hlt
    have hcv := hv.cell
    have hfv := hv.frozen
    have hsz := hB.size
    have hlen1 : pre.length + 1 ≤ maxLen := by unfold maxLen; omega
    have hwk := KeepsWalks.alloc W (.cells #[ptrOf x] 211)
    gi_wp2_with (first
      | (gi_at_builtin; refine wpListIn_append_own _ rfl _ _ 397 rfl w.heap.size 211 i0 (.pointer none) 1 8 (by kernel_rfl) hi hz0 hz1 hz2 rfl (by decide) _ _ _ rfl (hrow.alloc _) ⟨W.heap.size, 0, none⟩ 1 1 [ptrOf x] rfl rfl (cell_one_new _ _ _) (by simp [Value.oneCell']) hlen1 (by omega) (by simp; omega) ?_; intro v' w3 hown' hg3 hnil3
         have hwk3 := KeepsWalks.of_grownBy hg3 (fun j o hj ho => by
           rcases hrow.2 with ⟨rfl, _⟩ | ⟨g, cap, cur, rfl, q1, q2, _⟩
           · cases hj
           · cases hj
             have := (old_of_new W (.cells #[ptrOf x] 211) (Array.getElem?_eq_some_iff.1 q2).1).trans q2
             rw [this] at ho
             cases ho
             rfl)
         obtain ⟨hv1, k1, k2, k3, k4⟩ := Boxed.appended hv (by decide) hrow hsz (Nat.le_refl _) hown' hg3
         have hcv3 := hv1.cell
         have hfv3 := hv1.frozen
         obtain ⟨g', cap', rfl⟩ := ownsRow_succ hown')
      | (rw [Oper.semAt_eq _ _ _ (fun c h => by cases h)]; go_simp; try go_bits))
    exact ⟨k3.from _, ⟨k4, (hwk.trans hwk3).trans (KeepsWalks.setCell _ _ _)⟩, ⟨⟨_, k1, by simpa using k2, trivial⟩, hB.trans k4⟩⟩
  case done =>
    rintro D ys W hD hp ⟨⟨v, hv, hrow, _⟩, hB⟩ hK
    have hcv := hv.cell
    gi_wp2
    refine ⟨by simp, .inl ⟨_, _, rfl, run_takeDeferred hK, ?_⟩⟩
    exact ⟨_, results_tmp rfl _ _ _, v, ys, rfl, hp, ownsRow_putObj hrow _ hK rfl, hB.trans (belowK_b (w := w) (Nat.le_refl _) W D _ _ (by simp at hD; omega) hK rfl rfl)⟩
  case stop =>
    rintro D c pre W _ _ h _
    exact h.elim
theorem collect_vals (Bm q b clock : Nat) (es : Array MapEntry) (ads : List Addr)
    (hbo : ∀ x ∈ es.toList, x.born < clock) (hnd : (es.toList.map (·.born)).Nodup) (hv : es.toList.map (·.val) = ads.map ptrOf) (hreach : es.size * 8 ≤ 140737488351232) (w : World) (hBm : Bm < w.heap.size) (hbw : b < w.heap.size)
    (hm : w.cell? ⟨Bm, q, none⟩ = some (.map (some b))) (hb : w.heap[b]? = some (.map es clock)) :
    Calls Tryz.prog 292 #[.func (.func 321) #[] #[.pointer (some ⟨Bm, q, none⟩)]] w fun e W' => ∃ v ss, e = .returned v ∧ (List.map ptrOf ss).Perm (ads.map ptrOf) ∧ W'.ownsRow w.heap.size 211 1 v ss.length (ss.map ptrOf) ∧ Below w.heap.size w W' := by
  have key := (append_vals Fence.wide 3 trivial trivial rfl (Nat.le_refl _) Bm q b clock es ads hbo hnd hv hreach w hBm hbw hm hb).calls room_wide
  go_enter Tryz.func292, Tryz.ntmps292
  go_wp2_with (go_at_call 320; refine Calls.mono key ?_; rintro e w' ⟨v, ss, rfl, h1, h2, h3⟩)
  go_ret
  exact ⟨v, ss, rfl, h1, h2, h3⟩
/-- all of nothing is taken out -/
theorem delete_none (b clock f : Nat) (caps : Array Value) (w : World) (hb : w.heap[b]? = some (.map #[] clock)) : Calls Tryz.prog 267 #[.map (some b), .func (.func f) #[] caps] w fun e w' => e = .returned (.tuple #[]) ∧ Below w.heap.size w w' := by
  have hrg := run_range_map (P := Tryz.prog) w 209 198 3 b #[] clock (by kernel_rfl) hb
  have hnx : ∀ ty, (Instr.next (.pointer (some ⟨w.heap.size, 0, none⟩)) false ty).run Tryz.prog (w.alloc (.mapIter (some b) clock #[] clock)) = .ok (.tuple #[.bool false]) (w.alloc (.mapIter (some b) clock #[] clock)) := fun ty => by
    rcases run_next_map (P := Tryz.prog) w ty b clock clock #[] #[] clock hb (fun x hx => by simp at hx) (Nat.le_refl _) with ⟨_, h⟩ | ⟨e, he, _⟩
    · exact h
    · exfalso
      have := left_nil #[]
      simp [leftOf] at he
  go_enter Tryz.func267, Tryz.ntmps267
  go_wp2
  refine wp_loop_rounds 1 ?_
  rw [rounds_succ]
  go_wp2
  go_end0
  exact ⟨rfl, (Below.refl _ w).alloc (Nat.le_refl _) _⟩
end Go.Proofs.YtajhndakkaniaaaGreatDoor
