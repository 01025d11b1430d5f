/- Windows and givers of ids (chapter 9): the other contracts, and awake. -/
import Derived.Test.YtgfkgbampoocdaaGreatDoorIds
namespace Go.Proofs.YtgfkgbampoocdaaGreatDoor
open Go.RowKit

theorem take_foldl (l : List Int) (a : Int) (i : Nat) (h : i < l.length) : (l.take (i + 1)).foldl min a = min ((l.take i).foldl min a) l[i] := by
  rw [List.take_succ_eq_append_getElem h, List.foldl_append]; rfl
set_option maxHeartbeats 1000000 in
theorem min_any (a : Int) (l : List Int) (v : Value) (w : World) (h : Rd w 1 v l.length (l.map (Value.int .u64))) : Calls Tryz.prog 34 #[.int .u64 a, v] w fun e w' => e = .returned (.int .u64 (l.foldl min a)) ∧ w = w' := by
  obtain ⟨v, cp, rfl, h1, h2⟩ := h.form
  have HR := Lib.hid h
  clear h
  go_enter Tryz.func34, Tryz.ntmps34
  go_wp2_with fail
  go_loopw [0, 9] (fun n i wr => ∃ (k : Nat), n = .int .u64 ((l.take k).foldl min a) ∧ i = .int .i64 k ∧ k ≤ l.length ∧ w = wr) (fun _ i _ => l.length - (intOf i).toNat)
  case atStart => exact ⟨0, rfl, rfl, Nat.zero_le _, rfl⟩
  case round =>
    obtain ⟨k, rfl, rfl, hk, rfl⟩ := hrel
    by_cases hlt : k < l.length
    · obtain ⟨b, o, rfl, c0⟩ := HR.out.at k hlt
      have HT := Lib.hid (take_foldl l a k hlt)
      generalize l[k] = x at *
      go_wp2_with fail
      go_roundw
      case rel => exact ⟨k + 1, by rw [HT.out], by go_num, by omega, trivial⟩
      case measure => simp [intOf]; omega
    · obtain rfl : k = l.length := by omega
      have HT := Lib.hid (List.take_length (l := l))
      go_wp2_with fail
      go_ret
      exact ⟨by rw [HT.out]; rfl, rfl⟩
set_option maxHeartbeats 1000000 in
theorem retire_any (b B0 : Nat) (V : Value) (s : Wd) (id : Int) (w : World) (h : Wi b B0 V s w) (ho : s.ok) (hid : 0 ≤ id) : Calls Tryz.prog 10 #[.pointer (some ⟨b, 0, none⟩), .int .u64 id] w fun e w' => e = .returned (.int .i64 (s.went (min id 1152921504606846977))) ∧ WiPost b B0 V (s.goes (min id 1152921504606846977)) w w' := by
  have HW := Lib.hid h
  have HO := Lib.hid ho
  clear h ho
  go_enter Tryz.func10, Tryz.ntmps10
  go_wp2_with fail
  refine (min_any id [1152921504606846977] _ _ (Rd.ofRw (m := 1) (Rw.new w #[.int .u64 1152921504606846977] TU) rfl (by decide) (by decide))).mono ?_
  rintro e w1 ⟨rfl, rfl⟩
  go_wp2_with fail
  refine (goes_any b B0 V s (min id 1152921504606846977) _ (HW.out.alloc _) ⟨by have := HO.out.m0; omega, HO.out.m1⟩ ⟨by omega, by omega⟩ (fun x hx => by have := HO.out.hi x hx; have := HO.out.m0; omega) (by have := HO.out.ln; have := HO.out.a1; omega)).mono ?_
  rintro e w2 ⟨rfl, hw2⟩
  have HE := Lib.hid (hw2.then (w := w) ((Kept.refl (WM b V) w).alloc _) (fun x hx => .inl hx))
  go_wp2_with fail
  go_ret
  exact ⟨rfl, HE.out⟩
/-- an empty window at a new block -/
def NewW (most : Int) (w : World) (e : Ending) (w' : World) : Prop :=
  e = .returned (.tuple #[.pointer (some ⟨w.heap.size, 0, none⟩), .int .i64 0]) ∧ Wi w.heap.size w.heap.size (.slice none 0 0) ⟨most, 1, []⟩ w' ∧ Below w.heap.size w w'
theorem new_yes (most : Int) (w : World) (h : 1 ≤ most ∧ most ≤ 100000) : Calls Tryz.prog 6 #[.int .i64 most] w (NewW most w) := by
  obtain ⟨h1, h2⟩ := h
  go_enter Tryz.func6, Tryz.ntmps6
  go_wp2_with fail
  refine done (.tuple #[.pointer (some ⟨w.heap.size, 0, none⟩), .int .i64 0]) rfl (by simp [results, Tryz.results6, go_sem]) ⟨rfl, ⟨Ob.new _ _ _, World.ownsRow_nil _ _ _ _, by simp [Value.ownBlock], Nat.le_refl _⟩, (Below.refl _ _).alloc (Nat.le_refl _) _⟩
theorem new_no (most : Int) (w : World) (h : ¬ (1 ≤ most ∧ most ≤ 100000)) : Calls Tryz.prog 6 #[.int .i64 most] w fun e w' => e = .returned (.tuple #[.pointer none, .int .i64 1]) ∧ w = w' := by
  rcases (by omega : most < 1 ∨ (1 ≤ most ∧ 100000 < most)) with h1 | ⟨h1, h2⟩
  all_goals
    clear h
    go_enter Tryz.func6, Tryz.ntmps6
    go_wp2_with fail
    go_ret2
    exact ⟨rfl, rfl⟩
abbrev TG : TypeId := 390
def gc (m x : Int) : Array Value := #[.int .u64 m, .int .u64 x]
def NewG (m : Int) (w : World) (e : Ending) (w' : World) : Prop :=
  e = .returned (.tuple #[.pointer (some ⟨w.heap.size, 0, none⟩), .int .i64 0]) ∧ Ob w' w.heap.size (gc m 0) TG ∧ Below w.heap.size w w'
theorem giver_yes (m : Int) (w : World) (h : 1 ≤ m ∧ m ≤ 1152921504606846976) : Calls Tryz.prog 216 #[.int .u64 m] w (NewG m w) := by
  obtain ⟨h1, h2⟩ := h
  go_enter Tryz.func216, Tryz.ntmps216
  go_wp2_with fail
  refine done (.tuple #[.pointer (some ⟨w.heap.size, 0, none⟩), .int .i64 0]) rfl (by simp [results, Tryz.results216, go_sem]) ⟨rfl, Ob.new _ _ _, (Below.refl _ _).alloc (Nat.le_refl _) _⟩
theorem giver_no (m : Int) (w : World) (h : ¬ (1 ≤ m ∧ m ≤ 1152921504606846976)) : Calls Tryz.prog 216 #[.int .u64 m] w fun e w' => e = .returned (.tuple #[.pointer none, .int .i64 1]) ∧ w = w' := by
  rcases (by omega : m < 1 ∨ (1 ≤ m ∧ 1152921504606846976 < m)) with h1 | ⟨h1, h2⟩
  all_goals
    clear h
    go_enter Tryz.func216, Tryz.ntmps216
    go_wp2_with fail
    go_ret2
    exact ⟨rfl, rfl⟩
theorem next_nil (w : World) : Calls Tryz.prog 344 #[.pointer none] w fun e w' => e = .returned (.tuple #[.int .u64 0, .int .i64 7]) ∧ ∃ q, w' = w.drewN q := by
  go_enter Tryz.func344, Tryz.ntmps344
  go_wp2_with fail
  refine wp_region_quiet_lit (by kernel_rfl) (by kernel_rfl) ?_
  try simp only [List.append]
  repeat (first | go_big_quiet_step (fail) | quiet_step (fail))
  refine wpQuiet_nil ?_
  intro W hW
  obtain ⟨q, rfl⟩ := hW
  go_wp2_with fail
  go_ret2
  exact ⟨rfl, q, rfl⟩
theorem next_yes (b : Nat) (m x : Int) (w : World) (h : Ob w b (gc m x) TG) (hx : x < m) (h0 : 0 ≤ x) (hm : m ≤ 1152921504606846976) : Calls Tryz.prog 344 #[.pointer (some ⟨b, 0, none⟩)] w fun e w' => e = .returned (.tuple #[.int .u64 (x + 1), .int .i64 0]) ∧ Ob w' b (gc m (x + 1)) TG ∧ Kept (Only b) w w' := by
  have HB := Lib.hid h
  obtain ⟨lb, cb, fb⟩ := h.blk
  have c0 : w.cell? ⟨b, 0, none⟩ = some (.int .u64 m) := cb 0
  have c1 : w.cell? ⟨b, 1, none⟩ = some (.int .u64 x) := cb 1
  clear cb h
  have hd : decide (m ≤ x) = false := decide_eq_false (by omega)
  go_enter Tryz.func344, Tryz.ntmps344
  go_wp2_with fail
  refine wp_region_quiet_lit (by kernel_rfl) (by kernel_rfl) ?_
  try simp only [List.append]
  repeat (first | go_big_quiet_step (fail) | quiet_step (fail))
  refine wpQuiet_nil ?_
  intro W hW
  have hkW : Kept (fun _ => False) w W := by obtain ⟨n9, rfl⟩ := hW; exact Kept.dn _ _ _
  have HB2 := Lib.hid (HB.out.kept hkW fun h => h)
  have HK2 := Lib.hid (hkW.mono (N := Only b) fun _ _ h => h.elim)
  clear hkW hW c0 c1 lb fb
  obtain ⟨lb, cb, fb⟩ := HB2.out.blk
  have c1 : W.cell? ⟨b, 1, none⟩ = some (.int .u64 x) := cb 1
  clear cb
  have HB3 := Lib.hid (Ob.cast (HB2.out.set 1 (.int .u64 (x + 1))) (show _ = gc m (x + 1) from rfl))
  have c2 : (W.setCell ⟨b, 1, none⟩ (.int .u64 (x + 1))).cell? ⟨b, 1, none⟩ = some (.int .u64 (x + 1)) := HB3.out.blk.2.1 1
  go_wp2_with fail
  go_ret2
  exact ⟨rfl, HB3.out, HK2.out.setO⟩
theorem next_no (b : Nat) (m x : Int) (w : World) (h : Ob w b (gc m x) TG) (hx : m ≤ x) : Calls Tryz.prog 344 #[.pointer (some ⟨b, 0, none⟩)] w fun e w' => e = .returned (.tuple #[.int .u64 0, .int .i64 7]) ∧ ∃ q, w' = w.drewN q := by
  obtain ⟨lb, cb, fb⟩ := h.blk
  have c0 : w.cell? ⟨b, 0, none⟩ = some (.int .u64 m) := cb 0
  have c1 : w.cell? ⟨b, 1, none⟩ = some (.int .u64 x) := cb 1
  clear cb h
  have hd : decide (m ≤ x) = true := decide_eq_true hx
  go_enter Tryz.func344, Tryz.ntmps344
  go_wp2_with fail
  refine wp_region_quiet_lit (by kernel_rfl) (by kernel_rfl) ?_
  try simp only [List.append]
  repeat (first | go_big_quiet_step (fail) | quiet_step (fail))
  refine wpQuiet_nil ?_
  intro W hW
  obtain ⟨q, rfl⟩ := hW
  clear c0 c1 lb fb
  go_wp2_with fail
  go_ret2
  exact ⟨rfl, q, rfl⟩
theorem last_any (b : Nat) (m x : Int) (w : World) (h : Ob w b (gc m x) TG) : Calls Tryz.prog 323 #[.pointer (some ⟨b, 0, none⟩)] w fun e w' => e = .returned (.int .u64 x) ∧ w = w' := by
  obtain ⟨lb, cb, fb⟩ := h.blk
  have c1 : w.cell? ⟨b, 1, none⟩ = some (.int .u64 x) := cb 1
  clear cb h
  go_enter Tryz.func323, Tryz.ntmps323
  go_wp2_with fail
  go_ret
  exact ⟨rfl, rfl⟩
theorem last_nil (w : World) : Calls Tryz.prog 323 #[.pointer none] w fun e w' => e = .returned (.int .u64 0) ∧ w = w' := by
  go_enter Tryz.func323, Tryz.ntmps323
  go_wp2_with fail
  go_ret
  exact ⟨rfl, rfl⟩
def nilCode (id : Int) : Int := if id = 0 ∨ 1152921504606846976 < id then 1 else 4
theorem done_nil (id : Int) (w : World) : Calls Tryz.prog 8 #[.pointer none, .int .u64 id] w fun e w' => e = .returned (.int .i64 (nilCode id)) ∧ ∃ q, w' = w.drewN q := by
  by_cases h0 : id = 0 ∨ 1152921504606846976 < id
  · have e1 : nilCode id = 1 := if_pos h0
    rw [e1]
    clear e1
    rcases h0 with h0 | h0
    · have hz : (id == 0) = true := beq_iff_eq.2 h0
      go_enter Tryz.func8, Tryz.ntmps8
      go_wp2_with fail
      go_ret
      exact ⟨rfl, 0, rfl⟩
    · by_cases hz : id = 0
      · have hz : (id == 0) = true := beq_iff_eq.2 hz
        go_enter Tryz.func8, Tryz.ntmps8
        go_wp2_with fail
        go_ret
        exact ⟨rfl, 0, rfl⟩
      · have hz : (id == 0) = false := beq_eq_false_iff_ne.2 hz
        have hb : decide (1152921504606846976 < id) = true := decide_eq_true h0
        go_enter Tryz.func8, Tryz.ntmps8
        go_wp2_with fail
        go_ret
        exact ⟨rfl, 0, rfl⟩
  · have e1 : nilCode id = 4 := if_neg h0
    rw [e1]
    have hz : (id == 0) = false := beq_eq_false_iff_ne.2 (by omega)
    have hb : decide (1152921504606846976 < id) = false := decide_eq_false (by omega)
    clear e1 h0
    go_enter Tryz.func8, Tryz.ntmps8
    go_wp2_with fail
    refine (is_nil id _).mono ?_
    rintro e w1 ⟨rfl, rfl⟩
    go_wp2_with fail
    refine wp_region_quiet_lit (by kernel_rfl) (by kernel_rfl) ?_
    try simp only [List.append]
    repeat (first | go_big_quiet_step (fail) | quiet_step (fail))
    refine wpQuiet_nil ?_
    intro W hW
    obtain ⟨q, rfl⟩ := hW
    go_wp2_with fail
    go_ret
    exact ⟨rfl, q, rfl⟩
end Go.Proofs.YtgfkgbampoocdaaGreatDoor
