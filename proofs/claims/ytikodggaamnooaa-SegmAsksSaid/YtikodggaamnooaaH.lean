/- Contracts of the reference's pieces and of the comparison of two lists of ranges. -/
import Derived.Test.YtikodggaamnooaaE
namespace Go.Proofs.Ytikodggaamnooaa
open Go.RowKit

set_option maxHeartbeats 400000 in
theorem piece_ref (t m k : Int) (w : World) : Calls Try.prog 12 #[.int .i64 t, .int .i64 m, .int .i64 k] w (PiecePost t m k w) := by
  have hc := count_le t m
  by_cases h0 : k < 0
  · clear hc
    go_enter Try.func12, Try.ntmps12
    go_wp2_with (go_at_call 13; refine (count_ref _ _ _).mono ?_; rintro e w' ⟨rfl, rfl⟩)
    refine ⟨rfl, _, by simp [results, Try.results12, go_sem], piecePost (pieceV_no (by omega)).symm ?_⟩
    exact (Below.refl _ _).alloc (Nat.le_refl _) _
  by_cases h1 : count t m ≤ k
  · clear hc
    go_enter Try.func12, Try.ntmps12
    go_wp2_with (go_at_call 13; refine (count_ref _ _ _).mono ?_; rintro e w' ⟨rfl, rfl⟩)
    refine ⟨rfl, _, by simp [results, Try.results12, go_sem], piecePost (pieceV_no (by omega)).symm ?_⟩
    exact (Below.refl _ _).alloc (Nat.le_refl _) _
  · obtain ⟨d0, d1, d2⟩ := hc
    obtain ⟨c1, c2, c3, c4, c5⟩ := d2 (by omega)
    have c6 : k * m ≤ 1073741824 := by
      have : k * m ≤ (count t m - 1) * m := Int.mul_le_mul_of_nonneg_right (by omega) (by omega)
      omega
    have c7 : 0 ≤ k * m := Int.mul_nonneg (by omega) (by omega)
    have c8 : (k + 1) * m = k * m + m := by rw [Int.add_mul, Int.one_mul]
    have c9 := Lib.hid c8
    clear c8 d2 c5
    have c10 : 0 ≤ (k + 1) * m ∧ (k + 1) * m ≤ 1075000000 := by rw [c9.out]; omega
    obtain ⟨c10, c11⟩ := c10
    go_enter Try.func12, Try.ntmps12
    go_wp2_with (go_at_call 13; refine (count_ref _ _ _).mono ?_; rintro e w' ⟨rfl, rfl⟩)
    refine done (pieceV t m k) rfl ?_ (piecePost rfl ((Below.refl _ _).alloc (Nat.le_refl _) _))
    rw [pieceV_yes (by omega)]; simp [results, Try.results12, go_sem]


theorem cut_sel (F T t m : Int) (n k : Nat) (h1 : 0 < count t m) (h2 : 0 ≤ F) (h3 : F ≤ T) (hok : cutOK F T t m n) (hk : (k : Int) < count t m) :
    (max (k * m) F < min (min ((k + 1) * m) t) T ∧ cutL (F - F % m) m t (min (k + 1 - (F / m).toNat) n) = cutL (F - F % m) m t (min (k - (F / m).toNat) n) ++ [((k : Int) * m, min (((k : Int) + 1) * m) t)]) ∨
    (¬ max (k * m) F < min (min ((k + 1) * m) t) T ∧ cutL (F - F % m) m t (min (k + 1 - (F / m).toNat) n) = cutL (F - F % m) m t (min (k - (F / m).toNat) n)) := by
  obtain ⟨c0, c1, c2⟩ := count_le t m
  obtain ⟨d1, d2, d3, d4, d5⟩ := c2 h1
  have hd := Int.mul_ediv_add_emod F m
  have hr1 : 0 ≤ F % m := Int.emod_nonneg _ (by omega)
  have hr2 : F % m < m := Int.emod_lt_of_pos _ (by omega)
  have hq0 : 0 ≤ F / m := Int.ediv_nonneg h2 (by omega)
  obtain ⟨q, hq⟩ := Int.eq_ofNat_of_zero_le hq0
  rw [hq, Int.toNat_natCast]
  have hf0 : F - F % m = q * m := by rw [hq] at hd; rw [Int.mul_comm]; omega
  rw [hf0]
  have e1 : ((k : Int) + 1) * m = k * m + m := by rw [Int.add_mul, Int.one_mul]
  rw [e1]
  unfold cutOK at hok
  rw [hf0] at hok
  by_cases hFT : F < min T t
  · rw [if_pos ⟨h1, h2, h3, hFT⟩] at hok
    obtain ⟨k1, k2⟩ := hok
    rcases Nat.lt_or_ge k q with hlt | hge
    · right
      have : ((k : Int) + 1) * m ≤ q * m := Int.mul_le_mul_of_nonneg_right (by omega) (by omega)
      rw [e1] at this
      refine ⟨by omega, ?_⟩
      rw [show k + 1 - q = 0 by omega, show k - q = 0 by omega]
    · obtain ⟨i, rfl⟩ : ∃ i, k = q + i := ⟨k - q, by omega⟩
      have e2 : ((q + i : Nat) : Int) * m = q * m + i * m := by rw [Int.natCast_add, Int.add_mul]
      rw [e2, show q + i + 1 - q = i + 1 by omega, show q + i - q = i by omega]
      have e3 : (0 : Int) ≤ i * m := Int.mul_nonneg (by omega) (by omega)
      by_cases hin : i < n
      · left
        have := k2 i hin
        refine ⟨by omega, ?_⟩
        rw [show min (i + 1) n = i + 1 by omega, show min i n = i by omega, cutL_succ]
      · right
        have : (n : Int) * m ≤ i * m := Int.mul_le_mul_of_nonneg_right (by omega) (by omega)
        refine ⟨by omega, ?_⟩
        rw [show min (i + 1) n = n by omega, show min i n = n by omega]
  · rw [if_neg (by omega)] at hok
    subst hok
    right
    exact ⟨by omega, by simp⟩

theorem count_ge (t m : Int) (h : 0 < count t m) : t ≤ count t m * m := by
  have h2 : ¬ (t < 0 ∨ 1073741824 < t ∨ m < 1 ∨ 1048576 < m) := fun hh => by rw [count_no _ _ hh] at h; omega
  rw [count_yes _ _ h2]
  have hd := Int.mul_ediv_add_emod (t + m - 1) m
  have hr2 : (t + m - 1) % m < m := Int.emod_lt_of_pos _ (by omega)
  rcases Int.le_total 1 ((t + m - 1) / m) with h3 | h3
  · rw [Int.max_eq_left h3, Int.mul_comm]; omega
  · rw [Int.max_eq_right h3]
    have := Int.mul_le_mul_of_nonneg_left h3 (show 0 ≤ m by omega)
    omega

theorem cut_end (F T t m : Int) (n k : Nat) (h1 : 0 < count t m) (h2 : 0 ≤ F) (h3 : F ≤ T) (hok : cutOK F T t m n) (hk : (k : Int) = count t m) : min (k - (F / m).toNat) n = n := by
  obtain ⟨c0, c1, c2⟩ := count_le t m
  obtain ⟨d1, d2, d3, d4, d5⟩ := c2 h1
  have hg := count_ge t m h1
  have hd := Int.mul_ediv_add_emod F m
  have hr1 : 0 ≤ F % m := Int.emod_nonneg _ (by omega)
  have hq0 : 0 ≤ F / m := Int.ediv_nonneg h2 (by omega)
  obtain ⟨q, hq⟩ := Int.eq_ofNat_of_zero_le hq0
  rw [hq, Int.toNat_natCast]
  have hf0 : F - F % m = q * m := by rw [hq] at hd; rw [Int.mul_comm]; omega
  unfold cutOK at hok
  rw [hf0] at hok
  by_cases hFT : F < min T t
  · rw [if_pos ⟨h1, h2, h3, hFT⟩] at hok
    rcases Nat.eq_zero_or_pos n with rfl | hn
    · simp
    · have h5 := hok.2 (n - 1) (by omega)
      by_cases hle : q + n ≤ k
      · omega
      · exfalso
        have h6 : (k : Int) * m ≤ ((q + (n - 1) : Nat) : Int) * m := Int.mul_le_mul_of_nonneg_right (by omega) (by omega)
        rw [Int.natCast_add, Int.add_mul] at h6
        rw [hk] at h6
        omega
  · rw [if_neg (by omega)] at hok
    simp [hok]

theorem cutL_zero (f m t : Int) : cutL f m t 0 = [] := rfl

set_option maxRecDepth 100000 in
set_option maxHeartbeats 1000000 in
theorem cut_ref_no (F T t m : Int) (w : World) (h : ¬ (0 < count t m ∧ 0 ≤ F ∧ F ≤ T)) : Calls Try.prog 17 #[.agg #[.int .i64 F, .int .i64 T], .int .i64 t, .int .i64 m] w (CutPost F T t m w) := by
  have h0 := (count_le t m).1
  have hok : cutOK F T t m 0 := by unfold cutOK; rw [if_neg (by omega)]
  by_cases hF : F < 0
  · go_enter Try.func17, Try.ntmps17
    go_wp2_with fail
    go_ret
    exact ⟨_, 0, rfl, hok, World.ownsRow_nil _ _ _ _, (Below.refl _ _).alloc (Nat.le_refl _) _⟩
  by_cases hT : T < F
  · go_enter Try.func17, Try.ntmps17
    go_wp2_with fail
    go_ret
    exact ⟨_, 0, rfl, hok, World.ownsRow_nil _ _ _ _, (Below.refl _ _).alloc (Nat.le_refl _) _⟩
  · have hc : ¬ (0 < count t m) := by omega
    go_enter Try.func17, Try.ntmps17
    go_wp2_with fail
    go_loopw [7, 8] (fun v x wr => v = .slice none 0 0 ∧ x = .int .i64 0 ∧ wr = w.alloc (Obj.cells #[.int .i64 F, .int .i64 T] 23)) (fun _ x _ => 0)
    case atStart => exact ⟨rfl, rfl, rfl⟩
    case round =>
      obtain ⟨rfl, rfl, rfl⟩ := hrel
      go_wp2_with (go_at_call 13; refine (count_ref _ _ _).mono ?_; rintro e w' ⟨rfl, rfl⟩)
      go_ret
      exact ⟨_, 0, rfl, hok, World.ownsRow_nil _ _ _ _, (Below.refl _ _).alloc (Nat.le_refl _) _⟩

set_option maxRecDepth 100000 in
set_option maxHeartbeats 1000000 in
theorem cut_ref_yes (F T t m : Int) (n : Nat) (w : World) (h1 : 0 < count t m) (h2 : 0 ≤ F) (h3 : F ≤ T) (hok : cutOK F T t m n) : Calls Try.prog 17 #[.agg #[.int .i64 F, .int .i64 T], .int .i64 t, .int .i64 m] w (CutPost F T t m w) := by
  obtain ⟨c0, c1, c2⟩ := count_le t m
  have HS := Lib.hid (fun (k : Nat) hk => cut_sel F T t m n k h1 h2 h3 hok hk)
  have HOK := Lib.hid hok
  clear hok c2
  go_enter Try.func17, Try.ntmps17
  go_wp2_with fail
  go_loopw [7, 8] (fun v x wr => ∃ k : Nat, x = .int .i64 k ∧ k ≤ count t m ∧ wr.ownsRow (w.heap.size + 1) 23 2 v (cutL (F - F % m) m t (min (k - (F / m).toNat) n)).length (rowOf (cutL (F - F % m) m t (min (k - (F / m).toNat) n))) ∧ Below w.heap.size w wr ∧ wr.heap[w.heap.size]? = some (.cells #[.int .i64 F, .int .i64 T] 23)) (fun _ x _ => (count t m - intOf x).toNat)
  case atStart => 
    refine ⟨0, rfl, by omega, ?_, (Below.refl _ _).alloc (Nat.le_refl _) _, heap_new _ _⟩
    rw [show min (0 - (F / m).toNat) n = 0 by omega, cutL_zero]; exact World.ownsRow_nil _ _ _ _
  case round =>
    obtain ⟨k, rfl, hk, hown, hbel, hbox⟩ := hrel
    by_cases hlt : (k : Int) < count t m
    · have hlen : (cutL (F - F % m) m t (min (k - (F / m).toNat) n)).length ≤ 1073741824 := by
        rw [cutL_len]; have e1 := Nat.min_le_left (k - (F / m).toNat) n; have e2 := Nat.sub_le k (F / m).toNat; omega
      have HLEN := Lib.hid (show ((cutL (F - F % m) m t (min (k - (F / m).toNat) n)).length + 1) * 16 ≤ 140737488355328 by omega)
      clear hlen
      have hp := pieceV_yes (t := t) (m := m) (k := k) ⟨by omega, hlt⟩
      have HP := Lib.hid hp
      have HO := Lib.hid hown
      have HB := Lib.hid hbel
      have HX := Lib.hid hbox
      have hs := hbel.size
      have hx := heap_lt hbox
      clear hp hown hbel hbox
      go_wp2_with (go_at_call 13; refine (count_ref _ _ _).mono ?_; rintro e w' ⟨rfl, rfl⟩)
      refine (piece_ref _ _ _ _).mono ?_
      rintro e w1 ⟨rfl, hb1⟩
      rw [HP.out]
      have hs1 := hb1.size
      obtain ⟨g1, g2, g3⟩ := blk (below_heap hb1 hx HX.out)
      have HB1 := Lib.hid hb1
      clear hb1
      rcases HS.out k hlt with ⟨q1, q2⟩ | ⟨q1, q2⟩
      · have Q2 := Lib.hid q2
        clear q2
        go_wp2_with (at_builtin; (refine wpList_app1 rfl _ _ 25 rfl info23 Try.underlying25 rfl (by decide) ((below_own HO.out HB1.out).alloc (Obj.cells #[.int .i64 ((k : Int) * m), .int .i64 (min (((k : Int) + 1) * m) t)] 23)) [.int .i64 ((k : Int) * m), .int .i64 (min (((k : Int) + 1) * m) t)] rfl rfl (by simp) ⟨rfl, by simp [Value.oneCell']⟩ HLEN.out (by simp; omega) ?_))
        intro v3 w3 ho3 hg
        have hB3 : Below w.heap.size w w3 := HB.out.trans ((HB1.out.mono hs).trans ((((Below.refl _ _).alloc (Nat.le_refl _) _).mono (by omega)).trans (grown_below ((below_own HO.out HB1.out).alloc (Obj.cells #[.int .i64 ((k : Int) * m), .int .i64 (min (((k : Int) + 1) * m) t)] 23)) hg (by simp; omega) |>.mono (by omega))))
        have hX3 : w3.heap[w.heap.size]? = some (.cells #[.int .i64 F, .int .i64 T] 23) := by
          rw [hg.block _ (by simp; omega) (ownBlock_ne HO.out (by omega))]
          exact heap_old _ (below_heap HB1.out hx HX.out)
        rw [← rowOf_snoc, ← Q2.out] at ho3
        have hl3 : (cutL (F - F % m) m t (min (k - (F / m).toNat) n)).length + 1 = (cutL (F - F % m) m t (min (k + 1 - (F / m).toNat) n)).length := by rw [Q2.out]; simp
        rw [hl3] at ho3
        have HO3 := Lib.hid ho3
        have HB3 := Lib.hid hB3
        have HX3 := Lib.hid hX3
        clear ho3 hB3 hX3 hl3 hg
        go_wp2
        go_roundw
        case rel => exact ⟨k + 1, by go_num, by omega, HO3.out, HB3.out, HX3.out⟩
        case measure => simp [intOf]; omega
      · have Q2 := Lib.hid q2
        clear q2
        go_wp2_with fail
        go_roundw
        case rel =>
          refine ⟨k + 1, by go_num, by omega, ?_, HB.out.trans ((HB1.out.mono hs).trans (((Below.refl _ _).alloc (Nat.le_refl _) _).mono (by omega))), heap_old _ (below_heap HB1.out hx HX.out)⟩
          rw [Q2.out]; exact (below_own HO.out HB1.out).alloc _
        case measure => simp [intOf]; omega
    · have hn := cut_end F T t m n k h1 h2 h3 HOK.out (by omega)
      rw [hn] at hown
      go_wp2_with (go_at_call 13; refine (count_ref _ _ _).mono ?_; rintro e w' ⟨rfl, rfl⟩)
      go_ret
      rw [cutL_len] at hown
      exact ⟨_, n, rfl, HOK.out, ownsRow_mono hown (by omega), hbel⟩

end Go.Proofs.Ytikodggaamnooaa
