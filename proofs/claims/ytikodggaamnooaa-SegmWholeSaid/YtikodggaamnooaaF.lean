/- The law SegmWhole, walked. -/
import Derived.Test.YtikodggaamnooaaE
namespace Go.Proofs.Ytikodggaamnooaa
open Go.RowKit

def headB (l : List UInt8) (m : Int) (k : Nat) : List UInt8 := l.take (min (k * m) l.length).toNat
theorem headB_zero (l : List UInt8) (m : Int) : headB l m 0 = [] := by simp [headB]; left; omega
theorem headB_len (l : List UInt8) (m : Int) (k : Nat) (h : 0 ≤ (k : Int) * m) : ((headB l m k).length : Int) = min (k * m) l.length := by unfold headB; rw [List.length_take]; omega
theorem headB_succ (l : List UInt8) (m : Int) (k : Nat) (h : 0 ≤ (k : Int) * m) (hm : 1 ≤ m) (hk : (k : Int) * m ≤ l.length) : headB l m (k + 1) = headB l m k ++ subB l (k * m) (min ((k + 1) * m) l.length) := by
  have e : ((k : Int) + 1) * m = k * m + m := by rw [Int.add_mul, Int.one_mul]
  unfold headB subB
  rw [Int.natCast_add, Int.natCast_one, e]
  generalize (k : Int) * m = x at *
  rw [Int.min_eq_left hk]
  split
  · rename_i hlt
    rw [show (min (min (x + m) ↑l.length) ↑l.length) = min (x + m) l.length by omega, show max x 0 = x by omega]
    have : (min (x + m) (l.length : Int)).toNat = x.toNat + ((min (x + m) (l.length : Int)).toNat - x.toNat) := by omega
    rw [this, List.take_add]
    congr 2; omega
  · rename_i hlt
    rw [List.append_nil, List.take_of_length_le (by omega), List.take_of_length_le (by omega)]
theorem headB_all (l : List UInt8) (m : Int) (k : Nat) (h : (l.length : Int) ≤ k * m) : headB l m k = l := by unfold headB; rw [List.take_of_length_le (by omega)]

theorem count_facts (n : Nat) (m : Int) (hn : n ≤ 2000) (h1 : 1 ≤ m) (h2 : m ≤ 3000) : 1 ≤ count n m ∧ (count n m ≤ n ∨ count n m = 1) ∧ (n : Int) ≤ count n m * m ∧ (∀ k : Int, 0 ≤ k → k + 1 < count n m → (k + 1) * m ≤ n) ∧ (∀ k : Int, 0 ≤ k → k < count n m → k * m ≤ n) := by
  have hc := count_yes (n : Int) m (by omega)
  have hd := Int.mul_ediv_add_emod ((n : Int) + m - 1) m
  have hr1 : 0 ≤ ((n : Int) + m - 1) % m := Int.emod_nonneg _ (by omega)
  have hr2 : ((n : Int) + m - 1) % m < m := Int.emod_lt_of_pos _ (by omega)
  rw [hc]
  generalize hq : ((n : Int) + m - 1) / m = q at *
  have hq0 : 0 ≤ q := by rw [← hq]; exact Int.ediv_nonneg (by omega) (by omega)
  have hqm : m * q ≤ n + m - 1 := by omega
  have hqn : (n : Int) ≤ m * q := by omega
  have hle : q ≤ n ∨ n = 0 := by
    by_cases h0 : n = 0
    · exact .inr h0
    · left
      have : q < n + 1 := by
        rw [← hq]
        apply Int.ediv_lt_of_lt_mul (by omega)
        have := Int.mul_le_mul_of_nonneg_left (a := 1) (b := m) (c := (n : Int)) h1 (by omega)
        rw [Int.add_mul]; omega
      omega
  have hmono : ∀ k : Int, k ≤ q - 1 → k * m ≤ n := by
    intro k hk
    have := Int.mul_le_mul_of_nonneg_right hk (show 0 ≤ m by omega)
    rw [Int.sub_mul, Int.mul_comm q m] at this; omega
  refine ⟨by omega, ?_, ?_, ?_, ?_⟩
  · rcases hle with h | h
    · by_cases h3 : 1 ≤ q
      · left; omega
      · right; omega
    · right
      subst h
      have : q < 2 := by
        rw [← hq]
        apply Int.ediv_lt_of_lt_mul (by omega); omega
      omega
  · rcases Int.le_total 1 q with h | h
    · rw [Int.max_eq_left h, Int.mul_comm]; exact hqn
    · rw [Int.max_eq_right h]
      have := Int.mul_le_mul_of_nonneg_left h (show 0 ≤ m by omega)
      omega
  · intro k h0 hk
    exact hmono (k + 1) (by omega)
  · intro k h0 hk
    by_cases h3 : k ≤ q - 1
    · exact hmono k h3
    · have : k = 0 := by omega
      subst this; simp

set_option maxHeartbeats 400000 in
theorem whole_out (v : Value) (l : List UInt8) (m o : Int) (w : World) (h : Rd w 1 v l.length (bcells l)) (hd : 2000 < l.length ∨ m < 1 ∨ 3000 < m) : Calls Try.prog 4 #[v, .int .i64 m, .int .i64 o] w (TrueBelow w) := by
  obtain ⟨a, cap, rfl, h1, h2⟩ := h.form
  clear h
  go_enter Try.func4, Try.ntmps4
  go_wp2_with (go_at_call 6; refine (awake_any _).mono ?_; rintro e w' ⟨rfl, hb⟩)
  all_goals (go_ret; exact ⟨rfl, hb⟩)

set_option maxHeartbeats 2000000 in
set_option maxRecDepth 100000 in
theorem whole_in (v : Value) (l : List UInt8) (m o : Int) (w : World) (h : Rd w 1 v l.length (bcells l)) (hl : l.length ≤ 2000) (hm1 : 1 ≤ m) (hm2 : m ≤ 3000) (ho : o ≤ 9223372036854775807) : Calls Try.prog 4 #[v, .int .i64 m, .int .i64 o] w (TrueBelow w) := by
  obtain ⟨c1, c2, c3, c4, c5⟩ := count_facts l.length m hl hm1 hm2
  obtain ⟨a, cap, rfl, h1, h2⟩ := h.form
  have H := Lib.hid h
  have HC := Lib.hid (And.intro c4 c5)
  clear h c4 c5
  go_enter Try.func4, Try.ntmps4
  go_wp2_with (go_at_call 8; refine (count_any _ _ _).mono ?_; rintro e w' ⟨rfl, rfl⟩)
  go_loopw [8, 9] (fun v x wr => ∃ k : Nat, x = .int .i64 k ∧ k ≤ count l.length m ∧ wr.ownsRow w.heap.size 5 1 v (headB l m k).length (bcells (headB l m k)) ∧ Below w.heap.size w wr) (fun _ x _ => (count l.length m - intOf x).toNat)
  case atStart => exact ⟨0, rfl, by omega, by rw [headB_zero]; exact World.ownsRow_nil _ _ _ _, Below.refl _ _⟩
  case round =>
    obtain ⟨k, rfl, hk, hown, hbel⟩ := hrel
    by_cases hlt : (k : Int) < count l.length m
    · have k1 := HC.out.2 k (by omega) hlt
      have k0 : 0 ≤ (k : Int) * m := Int.mul_nonneg (by omega) (by omega)
      have k2 : ((k : Int) + 1) * m = k * m + m := by rw [Int.add_mul, Int.one_mul]
      have K2 := Lib.hid k2
      have hp := pieceV_yes (t := l.length) (m := m) (k := k) ⟨by omega, hlt⟩
      have HP := Lib.hid hp
      have hkl : k ≤ l.length := by omega
      clear k2 hp
      have hy1 : ((k : Int) + 1) * m ≤ k * m + m := by rw [K2.out]; omega
      have hy2 : (k : Int) * m + m ≤ (k + 1) * m := by rw [K2.out]; omega
      have hs := hbel.size
      have hat : ∀ q, (k : Int) * m ≤ q → q < min ((k + 1) * m) l.length → atV l.length m q = k := by
        intro q hq1 hq2
        unfold atV
        rw [if_neg (by omega)]
        have e1 : q = (q - k * m) + k * m := by omega
        rw [e1, Int.add_mul_ediv_right _ _ (by omega), Int.ediv_eq_zero_of_lt (by omega) (by omega)]; omega
      have HAT := Lib.hid hat
      have HO := Lib.hid hown
      have HB := Lib.hid hbel
      have hcase : (k : Int) + 1 < count l.length m ∧ ((k : Int) + 1) * m ≤ l.length ∨ count l.length m ≤ (k : Int) + 1 := by
        by_cases hq : (k : Int) + 1 < count l.length m
        · exact .inl ⟨hq, HC.out.1 k (by omega) hq⟩
        · exact .inr (by omega)
      clear hat hown hbel
      rcases hcase with ⟨q1, q2⟩ | q1
      all_goals
        go_wp2_with fail
        refine (piece_any _ _ _ _).mono ?_
        rintro e w1 ⟨rfl, hb1⟩
        rw [HP.out]
        have HB1 := Lib.hid hb1
        have hs1 := hb1.size
        clear hb1
        go_wp2_with fail
        refine (bytes_any _ l _ _ _ ((H.out.below (HB.out.trans (HB1.out.mono hs))).alloc _) (by omega)).mono ?_
        rintro e w2 ⟨v2, rfl, ho2, hb2⟩
        have ho3 := below_own (below_own HO.out HB1.out |>.alloc (Obj.cells #[Value.int IntKind.i64 (↑k * m), Value.int IntKind.i64 (min ((↑k + 1) * m) ↑l.length)] 23)) hb2
        have hp2 := below_heap hb2 (by simp) (heap_new w1 _)
        have hB2 : Below w.heap.size w w2 := HB.out.trans ((HB1.out.mono hs).trans (((Below.refl _ _).alloc (by omega) _).trans (hb2.mono (by simp; omega))))
        have hsub := subB_len l (k * m) (min ((k + 1) * m) l.length)
        have hhl := headB_len l m k k0
        have hs2 := hB2.size
        have hp2l := heap_lt hp2
        have hrd2 := Rd.of_own ho2
        have HS := Lib.hid hsub
        have HH := Lib.hid hhl
        have HB2 := Lib.hid hB2
        have HP2 := Lib.hid hp2
        clear hb2 hsub hhl hB2 hp2 ho2
        go_wp2_with (at_builtin; refine wpList_appS rfl _ _ 28 rfl info5 Try.underlying28 rfl (by decide) ho3 hrd2 rfl rfl (bcells_one _) (by have := HS.out; have := HH.out; omega) (by omega) ?_)
        intro v3 w3 ho4 hg
        have hlt3 : ∀ b, u8.ownBlock = some b → b < w1.heap.size := fun b hb => Nat.lt_of_lt_of_le (HO.out.lt b hb).2 hs1
        have hP3 : w3.heap[w1.heap.size]? = some (Obj.cells #[Value.int IntKind.i64 (↑k * m), Value.int IntKind.i64 (min ((↑k + 1) * m) ↑l.length)] 23) := by
          rw [hg.block _ hp2l (fun he => by have := hlt3 _ he.symm; omega)]; exact HP2.out
        have hB3 := HB2.out.trans (grown_below ho3 hg (by omega))
        rw [← bcells_app, ← List.length_append, ← headB_succ l m k k0 hm1 k1] at ho4
        obtain ⟨g1, g2, g3⟩ := blk hP3
        have HO4 := Lib.hid ho4
        have HB3 := Lib.hid hB3
        clear ho3 hrd2 hg hlt3 hP3 hB3 ho4
        go_wp2_with (go_at_call 11; refine (at_any _ _ _ _ ho).mono ?_; rintro e w' ⟨rfl, rfl⟩; rw [HAT.out o (by omega) (by omega)])
        all_goals
          go_roundw
          case rel => exact ⟨k + 1, by go_num, by omega, HO4.out, HB3.out⟩
          case measure => simp [intOf]; omega
    · have hkk : (k : Int) = count l.length m := by omega
      have hall : headB l m k = l := headB_all l m k (by rw [hkk]; exact c3)
      rw [hall] at hown
      have hr := Rd.of_own hown
      have hr2 := H.out.below hbel
      have HR := Lib.hid hr
      have HR2 := Lib.hid hr2
      clear hr hr2 hown hall hkk
      have hb : decide ((k:Int) < count l.length m) = false := by simp; omega
      go_wp2_with (first | (refine wpList_str rfl 28 9 _ rfl Try.underlying28 Try.underlying5 Try.underlying9 HR.out rfl ?_) | (refine wpList_str rfl 28 9 _ rfl Try.underlying28 Try.underlying5 Try.underlying9 HR2.out rfl ?_) | (go_at_call 6; refine (awake_any _).mono ?_; rintro e w' ⟨rfl, hb⟩))
      go_ret
      exact ⟨rfl, hbel.trans (hb.mono hbel.size)⟩

end Go.Proofs.Ytikodggaamnooaa
