/- Contracts for segm. -/
import Derived.Test.YtikodggaamnooaaProg
import Derived.Test.YtikodggaamnooaaLib
namespace Go.Proofs.Ytikodggaamnooaa
open Go.RowKit


def count (t m : Int) : Int := if t < 0 ∨ 1073741824 < t ∨ m < 1 ∨ 1048576 < m then 0 else max ((t + m - 1) / m) 1

theorem count_no (t m : Int) (h : t < 0 ∨ 1073741824 < t ∨ m < 1 ∨ 1048576 < m) : count t m = 0 := by unfold count; rw [if_pos h]
theorem count_yes (t m : Int) (h : ¬ (t < 0 ∨ 1073741824 < t ∨ m < 1 ∨ 1048576 < m)) : count t m = max ((t + m - 1) / m) 1 := by unfold count; rw [if_neg h]

set_option maxHeartbeats 400000 in
theorem count_any (t m : Int) (w : World) : Calls Try.prog 8 #[.int .i64 t, .int .i64 m] w fun e w' => e = .returned (.int .i64 (count t m)) ∧ w = w' := by
  go_enter Try.func8, Try.ntmps8
  go_wp2
  all_goals (go_ret; refine ⟨ret_int ?_, rfl⟩)
  all_goals first | rw [count_no _ _ (by omega)] | rw [count_yes _ _ (by omega)]

set_option maxHeartbeats 400000 in
theorem count_ref (t m : Int) (w : World) : Calls Try.prog 13 #[.int .i64 t, .int .i64 m] w fun e w' => e = .returned (.int .i64 (count t m)) ∧ w = w' := by
  go_enter Try.func13, Try.ntmps13
  go_wp2
  all_goals (go_ret; refine ⟨ret_int ?_, rfl⟩)
  all_goals first | rw [count_no _ _ (by omega)] | rw [count_yes _ _ (by omega)]

def pieceV (t m k : Int) : Value := if 0 ≤ k ∧ k < count t m then .tuple #[.agg #[.int .i64 (k * m), .int .i64 (min ((k + 1) * m) t)], .int .i64 0] else .tuple #[.agg #[.int .i64 0, .int .i64 0], .int .i64 1]
theorem pieceV_no {t m k : Int} (h : ¬ (0 ≤ k ∧ k < count t m)) : pieceV t m k = .tuple #[.agg #[.int .i64 0, .int .i64 0], .int .i64 1] := by unfold pieceV; rw [if_neg h]
theorem pieceV_yes {t m k : Int} (h : 0 ≤ k ∧ k < count t m) : pieceV t m k = .tuple #[.agg #[.int .i64 (k * m), .int .i64 (min ((k + 1) * m) t)], .int .i64 0] := by unfold pieceV; rw [if_pos h]
def PiecePost (t m k : Int) (w : World) (e : Ending) (w' : World) : Prop := e = .returned (pieceV t m k) ∧ Below w.heap.size w w'
theorem piecePost {t m k : Int} {w : World} {v : Value} {w' : World} (h : v = pieceV t m k) (hb : Below w.heap.size w w') : PiecePost t m k w (.returned v) w' := ⟨by rw [h], hb⟩

theorem count_le (t m : Int) : 0 ≤ count t m ∧ count t m ≤ 1073741824 ∧ (0 < count t m → 0 ≤ t ∧ t ≤ 1073741824 ∧ 1 ≤ m ∧ m ≤ 1048576 ∧ (count t m - 1) * m ≤ t) := by
  unfold count
  split
  · simp
  · refine ⟨by omega, ?_, fun _ => ⟨by omega, by omega, by omega, by omega, ?_⟩⟩
    · have : (t + m - 1) / m ≤ 1073741824 := by
        apply Int.ediv_le_of_le_mul (by omega)
        rcases Int.le_total t 0 with h | h
        · omega
        · have : 1073741824 * 1 ≤ 1073741824 * m := Int.mul_le_mul_of_nonneg_left (by omega) (by omega)
          have h3 : (t - 1) * 1 ≤ (t - 1) * m ∨ t = 0 := by
            by_cases ht : t = 0
            · exact Or.inr ht
            · exact Or.inl (Int.mul_le_mul_of_nonneg_left (by omega) (by omega))
          have h4 : (1073741824 - 1) * 1 ≤ (1073741824 - 1) * m := Int.mul_le_mul_of_nonneg_left (by omega) (by omega)
          omega
      omega
    rcases Int.le_total 1 ((t + m - 1) / m) with h | h
    · rw [Int.max_eq_left h]
      have h2 := Int.mul_ediv_self_le (x := t + m - 1) (k := m) (by omega)
      rw [Int.sub_mul, Int.mul_comm]; omega
    · rw [Int.max_eq_right h]; simp; omega

set_option maxHeartbeats 400000 in
theorem piece_any (t m k : Int) (w : World) : Calls Try.prog 9 #[.int .i64 t, .int .i64 m, .int .i64 k] w (PiecePost t m k w) := by
  have hc := count_le t m
  by_cases h0 : k < 0
  · clear hc
    go_enter Try.func9, Try.ntmps9
    go_wp2_with (go_at_call 8; refine (count_any _ _ _).mono ?_; rintro e w' ⟨rfl, rfl⟩)
    refine ⟨rfl, _, by simp [results, Try.results9, go_sem], piecePost (pieceV_no (by omega)).symm ?_⟩
    exact (Below.refl _ _).alloc (Nat.le_refl _) _
  by_cases h1 : count t m ≤ k
  · clear hc
    go_enter Try.func9, Try.ntmps9
    go_wp2_with (go_at_call 8; refine (count_any _ _ _).mono ?_; rintro e w' ⟨rfl, rfl⟩)
    refine ⟨rfl, _, by simp [results, Try.results9, go_sem], piecePost (pieceV_no (by omega)).symm ?_⟩
    exact (Below.refl _ _).alloc (Nat.le_refl _) _
  · obtain ⟨d0, d1, d2⟩ := hc
    obtain ⟨c1, c2, c3, c4, c5⟩ := d2 (by omega)
    have c6 : k * m ≤ 1073741824 := by
      have : k * m ≤ (count t m - 1) * m := Int.mul_le_mul_of_nonneg_right (by omega) (by omega)
      omega
    have c7 : 0 ≤ k * m := Int.mul_nonneg (by omega) (by omega)
    have c8 : (k + 1) * m = k * m + m := by rw [Int.add_mul, Int.one_mul]
    have c9 := Lib.hid c8
    clear c8 d2 c5
    have c10 : 0 ≤ (k + 1) * m ∧ (k + 1) * m ≤ 1075000000 := by rw [c9.out]; omega
    obtain ⟨c10, c11⟩ := c10
    go_enter Try.func9, Try.ntmps9
    go_wp2_with (go_at_call 8; refine (count_any _ _ _).mono ?_; rintro e w' ⟨rfl, rfl⟩)
    refine done (pieceV t m k) rfl ?_ (piecePost rfl ((Below.refl _ _).alloc (Nat.le_refl _) _))
    rw [pieceV_yes (by omega)]; simp [results, Try.results9, go_sem]

theorem info23 : (Try.prog.info? 23).map (fun i => (i.zero, i.size, i.bytes)) = some (some (.agg #[.int .i64 0, .int .i64 0]), 2, 16) := by kernel_rfl

/-- rows of ranges -/
def rowOf (l : List (Int × Int)) : List Value := l.flatMap fun p => [.int .i64 p.1, .int .i64 p.2]
theorem rowOf_snoc (l : List (Int × Int)) (a b : Int) : rowOf (l ++ [(a, b)]) = rowOf l ++ [.int .i64 a, .int .i64 b] := by simp [rowOf]

theorem rowOf_get (l : List (Int × Int)) (j : Nat) (p : Int × Int) (h : l[j]? = some p) : (rowOf l)[j * 2]? = some (.int .i64 p.1) ∧ (rowOf l)[j * 2 + 1]? = some (.int .i64 p.2) := by
  have h0 := flat_get (f := fun p : Int × Int => [Value.int .i64 p.1, Value.int .i64 p.2]) (k := 2) (fun _ => rfl) l j 0 (by decide)
  have h1 := flat_get (f := fun p : Int × Int => [Value.int .i64 p.1, Value.int .i64 p.2]) (k := 2) (fun _ => rfl) l j 1 (by decide)
  rw [h] at h0 h1
  exact ⟨h0, h1⟩

def cutL (f m t : Int) (n : Nat) : List (Int × Int) := (List.range n).map fun (i : Nat) => (f + i * m, min (f + i * m + m) t)
theorem cutL_succ (f m t : Int) (n : Nat) : cutL f m t (n + 1) = cutL f m t n ++ [(f + n * m, min (f + n * m + m) t)] := by simp [cutL, List.range_succ]
theorem cutL_get (f m t : Int) (n j : Nat) (h : j < n) : (cutL f m t n)[j]? = some (f + j * m, min (f + j * m + m) t) := by simp [cutL, h]
theorem cutL_len (f m t : Int) (n : Nat) : (cutL f m t n).length = n := by simp [cutL]

def cutOK (F T t m : Int) (n : Nat) : Prop :=
  if 0 < count t m ∧ 0 ≤ F ∧ F ≤ T ∧ F < min T t then min T t ≤ F - F % m + n * m ∧ ∀ k : Nat, k < n → F - F % m + k * m < min T t else n = 0
def CutPost (F T t m : Int) (w : World) (e : Ending) (w' : World) : Prop :=
  ∃ v n, e = .returned v ∧ cutOK F T t m n ∧ w'.ownsRow w.heap.size 23 2 v n (rowOf (cutL (F - F % m) m t n)) ∧ Below w.heap.size w w'

set_option maxHeartbeats 400000 in
theorem cut_no (F T t m : Int) (w : World) (h : ¬ (0 < count t m ∧ 0 ≤ F ∧ F ≤ T)) : Calls Try.prog 7 #[.agg #[.int .i64 F, .int .i64 T], .int .i64 t, .int .i64 m] w (CutPost F T t m w) := by
  have h0 := (count_le t m).1
  have hfin : CutPost F T t m w (.returned (.slice none 0 0)) (w.alloc (Obj.cells #[.int .i64 F, .int .i64 T] 23)) :=
    ⟨_, 0, rfl, by unfold cutOK; rw [if_neg (by omega)], World.ownsRow_nil _ _ _ _, (Below.refl _ _).alloc (Nat.le_refl _) _⟩
  have Hfin := Lib.hid hfin
  clear hfin
  by_cases hc : 0 < count t m
  · have hb : (count t m == 0) = false := by simp; omega
    by_cases hF : F < 0
    · go_enter Try.func7, Try.ntmps7
      go_wp2_with (go_at_call 8; refine (count_any _ _ _).mono ?_; rintro e w' ⟨rfl, rfl⟩)
      go_ret
      exact Hfin.out
    · have hT : T < F := by omega
      go_enter Try.func7, Try.ntmps7
      go_wp2_with (go_at_call 8; refine (count_any _ _ _).mono ?_; rintro e w' ⟨rfl, rfl⟩)
      go_ret
      exact Hfin.out
  · have hz : (count t m == 0) = true := by simp; omega
    go_enter Try.func7, Try.ntmps7
    go_wp2_with (go_at_call 8; refine (count_any _ _ _).mono ?_; rintro e w' ⟨rfl, rfl⟩)
    go_ret
    exact Hfin.out

/-- after n rounds -/
structure CutRel (F T t m : Int) (w : World) (n : Nat) (v : Value) (wr : World) : Prop where
  own : wr.ownsRow (w.heap.size + 1) 23 2 v n (rowOf (cutL (F - F % m) m t n))
  below : Below w.heap.size w wr
  box : wr.heap[w.heap.size]? = some (.cells #[.int .i64 F, .int .i64 T] 23)
  all : ∀ k : Nat, k < n → F - F % m + k * m < min T t
  nz : n = 0 ∨ F < min T t

set_option maxHeartbeats 1000000 in
theorem cut_yes (F T t m : Int) (w : World) (h : 0 < count t m ∧ 0 ≤ F ∧ F ≤ T) (hT : T ≤ 9223372036854775807) : Calls Try.prog 7 #[.agg #[.int .i64 F, .int .i64 T], .int .i64 t, .int .i64 m] w (CutPost F T t m w) := by
  obtain ⟨hc, h1, h2⟩ := h
  obtain ⟨d0, d1, d2⟩ := count_le t m
  obtain ⟨c1, c2, c3, c4, c5⟩ := d2 hc
  clear d2 c5
  have hb : (count t m == 0) = false := by simp; omega
  have hm1 : 0 ≤ F % m := Int.emod_nonneg _ (by omega)
  have hm2 : F % m ≤ F := by have := Int.mul_ediv_add_emod F m; have h5 : 0 ≤ m * (F / m) := Int.mul_nonneg (by omega) (Int.ediv_nonneg h1 (by omega)); omega
  obtain ⟨f0, hf0⟩ : ∃ f0, f0 = F - F % m := ⟨_, rfl⟩
  go_enter Try.func7, Try.ntmps7
  go_wp2_with (go_at_call 8; refine (count_any _ _ _).mono ?_; rintro e w' ⟨rfl, rfl⟩)
  go_quiet (fail)
  go_wp2
  obtain ⟨i0, hi, hz0, hz1, hz2⟩ := info_parts info23
  go_loopw [6, 8] (fun v x wr => ∃ n : Nat, x = .int .i64 (F - F % m + n * m) ∧ CutRel F T t m w n v wr) (fun _ x _ => (min T t - intOf x).toNat)
  case atStart =>
    refine ⟨0, by simp, ⟨World.ownsRow_nil _ _ _ _, ?_, ?_, by intro k hk; omega, .inl rfl⟩⟩
    · exact below_dn ((Below.refl _ _).alloc (Nat.le_refl _) _)
    · exact heap_new w _
  case round =>
    obtain ⟨n, rfl, hown, hbel, hbox, hall, hnz⟩ := hrel
    have hcF := cell_of_heap (i := 0) hbox rfl
    have hsz := heap_lt hbox
    have hnm : (n : Int) * 1 ≤ n * m := Int.mul_le_mul_of_nonneg_left (by omega) (by omega)
    by_cases hFT : F < min T t
    · by_cases hlt : F - F % m + n * m < min T t
      · go_wp2_with (at_builtin; refine wpList_app1 rfl _ _ 25 rfl info23 Try.underlying25 rfl (by decide) hown [.int .i64 (F - F % m + n * m), .int .i64 (min (F - F % m + n * m + m) t)] rfl rfl (by simp) ⟨rfl, by simp [Value.oneCell']⟩ (by omega) (by omega) ?_)
        intro v1 w1 ho hg
        rw [← rowOf_snoc, ← cutL_succ] at ho
        have hB1 := (hbel.grown hg (Nat.le_of_lt hsz) (fun k hk => by have := (hown.lt k hk).1; omega))
        have hB2 := Lib.hid (show w1.heap[w.heap.size]? = some (Obj.cells #[Value.int IntKind.i64 F, Value.int IntKind.i64 T] 23) by rw [hg.block _ hsz (ownBlock_ne hown (by omega))]; exact hbox)
        have hall' := Lib.hid hall
        clear hown hbel hbox hcF hall hg
        go_wp2
        go_roundw
        case rel =>
          refine ⟨n + 1, ?_, ho, hB1, hB2.out, ?_, .inr hFT⟩
          · rw [Int.add_assoc]; congr 2; rw [Int.natCast_add, Int.add_mul]; simp
          · intro k hk
            by_cases h : k = n
            · rw [h]; exact hlt
            · exact hall'.out k (by omega)
        case measure => simp [intOf]; omega
      · have hfin : CutPost F T t m w (.returned u6) wr := ⟨_, n, rfl, by unfold cutOK; rw [if_pos ⟨hc, h1, h2, hFT⟩]; exact ⟨by omega, hall⟩, ownsRow_mono hown (by omega), hbel⟩
        have Hfin := Lib.hid hfin
        clear hfin hown hbel hall hnz
        go_wp2
        go_ret
        exact Hfin.out
    · have hn : n = 0 := by omega
      subst hn
      have hfin : CutPost F T t m w (.returned u6) wr := ⟨_, 0, rfl, by unfold cutOK; rw [if_neg (by omega)], ownsRow_mono hown (by omega), hbel⟩
      have Hfin := Lib.hid hfin
      clear hfin hown hbel hall hnz
      go_wp2
      go_ret
      exact Hfin.out

end Go.Proofs.Ytikodggaamnooaa
