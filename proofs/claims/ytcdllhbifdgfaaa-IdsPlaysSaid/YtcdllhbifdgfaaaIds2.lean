/- Windows and givers of ids (chapter 9): the other contracts, and awake. -/
import Derived.Test.YtcdllhbifdgfaaaIds
namespace Go.Proofs.Ytcdllhbifdgfaaa
open Go.RowKit

theorem take_foldl (l : List Int) (a : Int) (i : Nat) (h : i < l.length) : (l.take (i + 1)).foldl min a = min ((l.take i).foldl min a) l[i] := by
  rw [List.take_succ_eq_append_getElem h, List.foldl_append]; rfl
set_option maxHeartbeats 1000000 in
theorem min_any (a : Int) (l : List Int) (v : Value) (w : World) (h : Rd w 1 v l.length (l.map (Value.int .u64))) : Calls Try.prog 29 #[.int .u64 a, v] w fun e w' => e = .returned (.int .u64 (l.foldl min a)) ∧ w = w' := by
  obtain ⟨v, cp, rfl, h1, h2⟩ := h.form
  have HR := Lib.hid h
  clear h
  go_enter Try.func29, Try.ntmps29
  go_wp2_with fail
  go_loopw [0, 9] (fun n i wr => ∃ (k : Nat), n = .int .u64 ((l.take k).foldl min a) ∧ i = .int .i64 k ∧ k ≤ l.length ∧ w = wr) (fun _ i _ => l.length - (intOf i).toNat)
  case atStart => exact ⟨0, rfl, rfl, Nat.zero_le _, rfl⟩
  case round =>
    obtain ⟨k, rfl, rfl, hk, rfl⟩ := hrel
    by_cases hlt : k < l.length
    · obtain ⟨b, o, rfl, c0⟩ := HR.out.at k hlt
      have HT := Lib.hid (take_foldl l a k hlt)
      generalize l[k] = x at *
      go_wp2_with fail
      go_roundw
      case rel => exact ⟨k + 1, by rw [HT.out], by go_num, by omega, trivial⟩
      case measure => simp [intOf]; omega
    · obtain rfl : k = l.length := by omega
      have HT := Lib.hid (List.take_length (l := l))
      go_wp2_with fail
      go_ret
      exact ⟨by rw [HT.out]; rfl, rfl⟩
set_option maxHeartbeats 1000000 in
theorem retire_any (b B0 : Nat) (V : Value) (s : Wd) (id : Int) (w : World) (h : Wi b B0 V s w) (ho : s.ok) (hid : 0 ≤ id) : Calls Try.prog 20 #[.pointer (some ⟨b, 0, none⟩), .int .u64 id] w fun e w' => e = .returned (.int .i64 (s.went (min id 1152921504606846977))) ∧ WiPost b B0 V (s.goes (min id 1152921504606846977)) w w' := by
  have HW := Lib.hid h
  have HO := Lib.hid ho
  clear h ho
  go_enter Try.func20, Try.ntmps20
  go_wp2_with fail
  refine (min_any id [1152921504606846977] _ _ (Rd.ofRw (m := 1) (Rw.new w #[.int .u64 1152921504606846977] TU) rfl (by decide) (by decide))).mono ?_
  rintro e w1 ⟨rfl, rfl⟩
  go_wp2_with fail
  refine (goes_any b B0 V s (min id 1152921504606846977) _ (HW.out.alloc _) ⟨by have := HO.out.m0; omega, HO.out.m1⟩ ⟨by omega, by omega⟩ (fun x hx => by have := HO.out.hi x hx; have := HO.out.m0; omega) (by have := HO.out.ln; have := HO.out.a1; omega)).mono ?_
  rintro e w2 ⟨rfl, hw2⟩
  have HE := Lib.hid (hw2.then (w := w) ((Kept.refl (WM b V) w).alloc _) (fun x hx => .inl hx))
  go_wp2_with fail
  go_ret
  exact ⟨rfl, HE.out⟩
/-- an empty window at a new block -/
def NewW (most : Int) (w : World) (e : Ending) (w' : World) : Prop :=
  e = .returned (.tuple #[.pointer (some ⟨w.heap.size, 0, none⟩), .int .i64 0]) ∧ Wi w.heap.size w.heap.size (.slice none 0 0) ⟨most, 1, []⟩ w' ∧ Below w.heap.size w w'
theorem new_yes (most : Int) (w : World) (h : 1 ≤ most ∧ most ≤ 100000) : Calls Try.prog 10 #[.int .i64 most] w (NewW most w) := by
  obtain ⟨h1, h2⟩ := h
  go_enter Try.func10, Try.ntmps10
  go_wp2_with fail
  refine done (.tuple #[.pointer (some ⟨w.heap.size, 0, none⟩), .int .i64 0]) rfl (by simp [results, Try.results10, go_sem]) ⟨rfl, ⟨Ob.new _ _ _, World.ownsRow_nil _ _ _ _, by simp [Value.ownBlock], Nat.le_refl _⟩, (Below.refl _ _).alloc (Nat.le_refl _) _⟩
theorem new_no (most : Int) (w : World) (h : ¬ (1 ≤ most ∧ most ≤ 100000)) : Calls Try.prog 10 #[.int .i64 most] w fun e w' => e = .returned (.tuple #[.pointer none, .int .i64 1]) ∧ w = w' := by
  rcases (by omega : most < 1 ∨ (1 ≤ most ∧ 100000 < most)) with h1 | ⟨h1, h2⟩
  all_goals
    clear h
    go_enter Try.func10, Try.ntmps10
    go_wp2_with fail
    go_ret2
    exact ⟨rfl, rfl⟩
abbrev TG : TypeId := 59
def gc (m x : Int) : Array Value := #[.int .u64 m, .int .u64 x]
def NewG (m : Int) (w : World) (e : Ending) (w' : World) : Prop :=
  e = .returned (.tuple #[.pointer (some ⟨w.heap.size, 0, none⟩), .int .i64 0]) ∧ Ob w' w.heap.size (gc m 0) TG ∧ Below w.heap.size w w'
theorem giver_yes (m : Int) (w : World) (h : 1 ≤ m ∧ m ≤ 1152921504606846976) : Calls Try.prog 16 #[.int .u64 m] w (NewG m w) := by
  obtain ⟨h1, h2⟩ := h
  go_enter Try.func16, Try.ntmps16
  go_wp2_with fail
  refine done (.tuple #[.pointer (some ⟨w.heap.size, 0, none⟩), .int .i64 0]) rfl (by simp [results, Try.results16, go_sem]) ⟨rfl, Ob.new _ _ _, (Below.refl _ _).alloc (Nat.le_refl _) _⟩
theorem giver_no (m : Int) (w : World) (h : ¬ (1 ≤ m ∧ m ≤ 1152921504606846976)) : Calls Try.prog 16 #[.int .u64 m] w fun e w' => e = .returned (.tuple #[.pointer none, .int .i64 1]) ∧ w = w' := by
  rcases (by omega : m < 1 ∨ (1 ≤ m ∧ 1152921504606846976 < m)) with h1 | ⟨h1, h2⟩
  all_goals
    clear h
    go_enter Try.func16, Try.ntmps16
    go_wp2_with fail
    go_ret2
    exact ⟨rfl, rfl⟩
theorem next_nil (w : World) : Calls Try.prog 17 #[.pointer none] w fun e w' => e = .returned (.tuple #[.int .u64 0, .int .i64 7]) ∧ ∃ q, w' = w.drewN q := by
  go_enter Try.func17, Try.ntmps17
  go_wp2_with fail
  refine wp_region_quiet_lit (by kernel_rfl) (by kernel_rfl) ?_
  repeat (first | go_big_quiet_step (fail) | quiet_step (fail))
  refine wpQuiet_nil ?_
  intro W hW
  obtain ⟨q, rfl⟩ := hW
  go_wp2_with fail
  go_ret2
  exact ⟨rfl, q, rfl⟩
theorem next_yes (b : Nat) (m x : Int) (w : World) (h : Ob w b (gc m x) TG) (hx : x < m) (h0 : 0 ≤ x) (hm : m ≤ 1152921504606846976) : Calls Try.prog 17 #[.pointer (some ⟨b, 0, none⟩)] w fun e w' => e = .returned (.tuple #[.int .u64 (x + 1), .int .i64 0]) ∧ Ob w' b (gc m (x + 1)) TG ∧ Kept (Only b) w w' := by
  have HB := Lib.hid h
  obtain ⟨lb, cb, fb⟩ := h.blk
  have c0 : w.cell? ⟨b, 0, none⟩ = some (.int .u64 m) := cb 0
  have c1 : w.cell? ⟨b, 1, none⟩ = some (.int .u64 x) := cb 1
  clear cb h
  have hd : decide (m ≤ x) = false := decide_eq_false (by omega)
  go_enter Try.func17, Try.ntmps17
  go_wp2_with fail
  refine wp_region_quiet_lit (by kernel_rfl) (by kernel_rfl) ?_
  repeat (first | go_big_quiet_step (fail) | quiet_step (fail))
  refine wpQuiet_nil ?_
  intro W hW
  have hkW : Kept (fun _ => False) w W := by obtain ⟨n9, rfl⟩ := hW; exact Kept.dn _ _ _
  have HB2 := Lib.hid (HB.out.kept hkW fun h => h)
  have HK2 := Lib.hid (hkW.mono (N := Only b) fun _ _ h => h.elim)
  clear hkW hW c0 c1 lb fb
  obtain ⟨lb, cb, fb⟩ := HB2.out.blk
  have c1 : W.cell? ⟨b, 1, none⟩ = some (.int .u64 x) := cb 1
  clear cb
  have HB3 := Lib.hid (Ob.cast (HB2.out.set 1 (.int .u64 (x + 1))) (show _ = gc m (x + 1) from rfl))
  have c2 : (W.setCell ⟨b, 1, none⟩ (.int .u64 (x + 1))).cell? ⟨b, 1, none⟩ = some (.int .u64 (x + 1)) := HB3.out.blk.2.1 1
  go_wp2_with fail
  go_ret2
  exact ⟨rfl, HB3.out, HK2.out.setO⟩
theorem next_no (b : Nat) (m x : Int) (w : World) (h : Ob w b (gc m x) TG) (hx : m ≤ x) : Calls Try.prog 17 #[.pointer (some ⟨b, 0, none⟩)] w fun e w' => e = .returned (.tuple #[.int .u64 0, .int .i64 7]) ∧ ∃ q, w' = w.drewN q := by
  obtain ⟨lb, cb, fb⟩ := h.blk
  have c0 : w.cell? ⟨b, 0, none⟩ = some (.int .u64 m) := cb 0
  have c1 : w.cell? ⟨b, 1, none⟩ = some (.int .u64 x) := cb 1
  clear cb h
  have hd : decide (m ≤ x) = true := decide_eq_true hx
  go_enter Try.func17, Try.ntmps17
  go_wp2_with fail
  refine wp_region_quiet_lit (by kernel_rfl) (by kernel_rfl) ?_
  repeat (first | go_big_quiet_step (fail) | quiet_step (fail))
  refine wpQuiet_nil ?_
  intro W hW
  obtain ⟨q, rfl⟩ := hW
  clear c0 c1 lb fb
  go_wp2_with fail
  go_ret2
  exact ⟨rfl, q, rfl⟩
theorem last_any (b : Nat) (m x : Int) (w : World) (h : Ob w b (gc m x) TG) : Calls Try.prog 18 #[.pointer (some ⟨b, 0, none⟩)] w fun e w' => e = .returned (.int .u64 x) ∧ w = w' := by
  obtain ⟨lb, cb, fb⟩ := h.blk
  have c1 : w.cell? ⟨b, 1, none⟩ = some (.int .u64 x) := cb 1
  clear cb h
  go_enter Try.func18, Try.ntmps18
  go_wp2_with fail
  go_ret
  exact ⟨rfl, rfl⟩
theorem last_nil (w : World) : Calls Try.prog 18 #[.pointer none] w fun e w' => e = .returned (.int .u64 0) ∧ w = w' := by
  go_enter Try.func18, Try.ntmps18
  go_wp2_with fail
  go_ret
  exact ⟨rfl, rfl⟩
def nilCode (id : Int) : Int := if id = 0 ∨ 1152921504606846976 < id then 1 else 4
theorem done_nil (id : Int) (w : World) : Calls Try.prog 11 #[.pointer none, .int .u64 id] w fun e w' => e = .returned (.int .i64 (nilCode id)) ∧ ∃ q, w' = w.drewN q := by
  by_cases h0 : id = 0 ∨ 1152921504606846976 < id
  · have e1 : nilCode id = 1 := if_pos h0
    rw [e1]
    clear e1
    rcases h0 with h0 | h0
    · have hz : (id == 0) = true := beq_iff_eq.2 h0
      go_enter Try.func11, Try.ntmps11
      go_wp2_with fail
      go_ret
      exact ⟨rfl, 0, rfl⟩
    · by_cases hz : id = 0
      · have hz : (id == 0) = true := beq_iff_eq.2 hz
        go_enter Try.func11, Try.ntmps11
        go_wp2_with fail
        go_ret
        exact ⟨rfl, 0, rfl⟩
      · have hz : (id == 0) = false := beq_eq_false_iff_ne.2 hz
        have hb : decide (1152921504606846976 < id) = true := decide_eq_true h0
        go_enter Try.func11, Try.ntmps11
        go_wp2_with fail
        go_ret
        exact ⟨rfl, 0, rfl⟩
  · have e1 : nilCode id = 4 := if_neg h0
    rw [e1]
    have hz : (id == 0) = false := beq_eq_false_iff_ne.2 (by omega)
    have hb : decide (1152921504606846976 < id) = false := decide_eq_false (by omega)
    clear e1 h0
    go_enter Try.func11, Try.ntmps11
    go_wp2_with fail
    refine (is_nil id _).mono ?_
    rintro e w1 ⟨rfl, rfl⟩
    go_wp2_with fail
    refine wp_region_quiet_lit (by kernel_rfl) (by kernel_rfl) ?_
    repeat (first | go_big_quiet_step (fail) | quiet_step (fail))
    refine wpQuiet_nil ?_
    intro W hW
    obtain ⟨q, rfl⟩ := hW
    go_wp2_with fail
    go_ret
    exact ⟨rfl, q, rfl⟩
theorem lowest_any (p : Option Addr) (a : Int) (l : List Int) (v : Value) (w : World) (h : Rd w 1 v l.length (l.map (Value.int .u64))) : Calls Try.prog 23 #[.pointer p, v, .int .u64 a] w fun e w' => e = .returned (.int .u64 (l.foldl min a)) ∧ w = w' := by
  obtain ⟨v, cp, rfl, h1, h2⟩ := h.form
  have HR := Lib.hid h
  clear h
  go_enter Try.func23, Try.ntmps23
  go_wp2_with fail
  refine (min_any a l _ _ HR.out).mono ?_
  rintro e w1 ⟨rfl, rfl⟩
  go_wp2_with fail
  go_ret
  exact ⟨rfl, rfl⟩
theorem w5_ok : (⟨5, 1, []⟩ : Wd).ok := ⟨by decide, by decide, by decide, by decide, List.Pairwise.nil, fun x hx => (by cases hx), by decide⟩
theorem w52_ok : (⟨5, 1, [2]⟩ : Wd).ok := ⟨by decide, by decide, by decide, by decide, by simp, fun x hx => (by simp at hx; subst hx; decide), by decide⟩
set_option maxHeartbeats 2000000 in
theorem awake_any (w : World) : Calls Try.prog 9 #[] w (TrueBelow w) := by
  go_enter Try.func9, Try.ntmps9
  go_wp2_with fail
  refine (new_yes 5 w ⟨by decide, by decide⟩).mono ?_
  rintro e w1 ⟨rfl, hw1, hb1⟩
  have HW1 := Lib.hid hw1
  have B1 := Lib.hid hb1
  have lt1 := hw1.ob.lt
  have s1 := hb1.size
  clear hw1 hb1
  go_wp2_with fail
  refine (giver_yes 1 _ ⟨by decide, by decide⟩).mono ?_
  rintro e w2 ⟨rfl, hg2, hb2⟩
  have HG2 := Lib.hid hg2
  have HW2 := Lib.hid (HW1.out.below hb2)
  have B2 := Lib.hid (B1.out.trans (hb2.mono s1))
  have s2 := hb2.size
  have ltg := hg2.lt
  generalize hG : w1.heap.size = G at *
  generalize hB : w.heap.size = B at *
  clear hg2 hb2
  go_wp2_with fail
  refine (done_any B B _ _ 2 _ HW2.out w5_ok (by decide)).mono ?_
  rintro e w3 ⟨rfl, V3, hw3, hk3, hn3⟩
  have HW3 : Hid (Wi B B V3 ⟨5, 1, [2]⟩ w3) := Lib.hid hw3
  have hg3 := HG2.out.kept hk3 (fun hh => by have := HW2.out; rcases hh with hh | hh; omega; cases hh)
  have HG3 := Lib.hid hg3
  have s3 := hk3.size
  have B3 := Lib.hid (B2.out.trans (hk3.belowAt (B := B) (by omega) (fun x hx => (HW2.out.lt x hx).1)))
  have nG3 : Hid (¬ WM B V3 G) := Lib.hid (fun hh => by
    rcases hn3 G hh with h | h
    · rcases h with h | h
      · omega
      · cases h
    · omega)
  clear hw3 hk3 hn3 hg3
  go_wp2_with fail
  refine (done_any B B _ _ 1 _ HW3.out w52_ok (by decide)).mono ?_
  rintro e w4 ⟨rfl, V4, hw4, hk4, hn4⟩
  have HW4 : Hid (Wi B B V4 ⟨5, 3, []⟩ w4) := Lib.hid hw4
  have HG4 := Lib.hid (HG3.out.kept hk4 nG3.out)
  have s4 := hk4.size
  have B4 := Lib.hid (B3.out.trans (hk4.belowAt (B := B) (by omega) (fun x hx => (HW3.out.lt x hx).1)))
  have nG4 : Hid (¬ WM B V4 G) := Lib.hid (fun hh => by
    rcases hn4 G hh with h | h
    · exact nG3.out h
    · omega)
  clear hw4 hk4 hn4
  go_wp2_with fail
  refine (next_yes G 1 0 _ HG4.out (by decide) (by decide) (by decide)).mono ?_
  rintro e w5 ⟨rfl, hg5, hk5⟩
  have HG5 := Lib.hid hg5
  have HW5 := Lib.hid (HW4.out.kept hk5 (fun x hx hh => nG4.out (by rw [show x = G from hh] at hx; exact hx)))
  have B5 := Lib.hid (B4.out.trans (hk5.belowAt (B := B) (by omega) (fun x hx => by rw [show x = G from hx]; omega)))
  clear hg5 hk5
  go_wp2_with fail
  refine (next_no G 1 (0 + 1) _ HG5.out (by decide)).mono ?_
  rintro e w6 ⟨rfl, q, rfl⟩
  have HW6 := Lib.hid (HW5.out.dn (n := q))
  have B6 := Lib.hid (below_dn (n := q) B5.out)
  generalize w5.drewN q = w6 at *
  go_wp2_with fail
  refine (mark_any B B V4 _ _ HW6.out).mono ?_
  rintro e w7 ⟨rfl, rfl⟩
  go_wp2_with fail
  refine (len_any B B V4 _ _ HW6.out).mono ?_
  rintro e w7 ⟨rfl, rfl⟩
  go_wp2_with fail
  go_ret
  refine ⟨rfl, ?_⟩
  rw [hB]
  exact B6.out
end Go.Proofs.Ytcdllhbifdgfaaa
