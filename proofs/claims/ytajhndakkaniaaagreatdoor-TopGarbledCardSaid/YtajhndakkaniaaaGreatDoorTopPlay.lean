/- shell.Play of one line that asks a world that there is none. -/
import Derived.Lib.Strings
import Derived.Lib.Slices
import Derived.Lib.Walk
import Derived.Lib.Bytealg
import Derived.Lib.Builder
import Derived.Lib.AppendStr
import Derived.Lib.UnsafeStr
import Derived.Laws.MakeOwn
import Derived.Deep.OwnRows
import Derived.Laws.Externs
import Derived.RowKit
import Derived.OwnWalk
import Derived.WalkKit
import Derived.Shelf.RegionOpenPlain
import Derived.Test.YtajhndakkaniaaaGreatDoorProg
namespace Go.Proofs.YtajhndakkaniaaaGreatDoor
open Go.Shelf Go.RowKit

set_option maxRecDepth 100000 in
theorem itoa5 (w : World) : Calls Tryz.prog 108 #[.int .i64 5] w fun e w' => e = .returned (.string ⟨#[53]⟩) ∧ w' = w := by
  go_enter Tryz.func108, Tryz.ntmps108
  go_wp2
  go_ret
  exact ⟨rfl, rfl⟩
theorem answer5 (w : World) : Calls Tryz.prog 50 #[.int .i64 5, .string ⟨#[]⟩] w fun e w' => e = .returned (.string ⟨#[101, 114, 114, 111, 114, 32, 53]⟩) ∧ w' = w := by
  go_enter Tryz.func50, Tryz.ntmps50
  go_wp2_with (first | (go_at_call 108; refine (itoa5 _).mono ?_; rintro e w' ⟨rfl, rfl⟩) | go_in)
  go_ret
  exact ⟨rfl, rfl⟩
set_option maxHeartbeats 1000000 in
theorem trim_suffix (s p : ByteArray) (w : World) (hs : s.size ≤ 9223372036854775807) :
    Calls Tryz.prog 80 #[.string s, .string p] w fun e w' => e = .returned (.string ⟨(Lib.trimSuffix s.data.toList p.data.toList).toArray⟩) ∧ w' = w := by
  have hlo : p.size ≤ s.size → ((s.size : Int) - (p.size : Int) + 9223372036854775808) % 18446744073709551616 - 9223372036854775808 = ((s.size - p.size : Nat) : Int) := fun _ => by omega
  go_enter Tryz.func80, Tryz.ntmps80
  go_wp2
  · have h1 : p.size ≤ s.size := by assumption
    have h2 : ((s.extract (s.size - p.size) s.size).toList == p.toList) = true := by assumption
    go_ret
    refine ⟨?_, rfl⟩
    rw [Lib.trimSuffix_hit s p h1 h2]
    rfl
  · have h2 : ((s.extract (s.size - p.size) s.size).toList == p.toList) = false := by assumption
    go_ret
    refine ⟨?_, rfl⟩
    rw [Lib.trimSuffix_miss s p (by rw [h2]; simp)]
    rfl
  · have h1 : ¬ p.size ≤ s.size := by assumption
    go_ret
    refine ⟨?_, rfl⟩
    rw [Lib.trimSuffix_miss s p (by simp [h1])]
    rfl
set_option maxHeartbeats 1000000 in
theorem has_prefix (s p : ByteArray) (w : World) :
    Calls Tryz.prog 83 #[.string s, .string p] w fun e w' => e = .returned (.bool (Lib.hasPrefix s.data.toList p.data.toList)) ∧ w' = w := by
  rw [← Lib.hasPrefix_of_take, ← Lib.size_eq, ← Lib.size_eq]
  go_enter Tryz.func83, Tryz.ntmps83
  go_wp2
  · rename_i h
    go_ret
    refine ⟨?_, rfl⟩
    show Ending.returned (Value.bool ((s.extract 0 p.size).toList == p.toList)) = _
    rw [Lib.extract_toList, Lib.toList_data]
    simp [h]
  · rename_i h
    go_ret
    refine ⟨?_, rfl⟩
    show Ending.returned (Value.bool false) = _
    simp [h]
set_option maxRecDepth 100000 in
theorem count_idle (w : World) : Calls Tryz.prog 135 #[.string ⟨#[105, 100, 108, 101]⟩, .string ⟨#[10]⟩] w fun e w' => e = .returned (.int .i64 0) ∧ w' = w := by
  go_enter Tryz.func135, Tryz.ntmps135
  go_wp2
  rw [run_callFunc_extern Tryz.func162 (by kernel_rfl) (by kernel_rfl) (by kernel_rfl) (e := Extern.BytealgCount.count) (by kernel_rfl), Lib.run_countString]
  simp only [Result.andThen]
  rw [Oper.upon_value]
  go_wp2
  go_ret
  exact ⟨rfl, rfl⟩
set_option maxRecDepth 100000 in
theorem split_idle (w : World) : Calls Tryz.prog 106 #[.string ⟨#[105, 100, 108, 101]⟩, .string ⟨#[10]⟩, .int .i64 0, .int .i64 (-1)] w fun e w' => e = .returned (.slice (some ⟨w.heap.size, 0, none⟩) 1 1) ∧ w' = w.alloc (.cells #[.string ⟨#[105, 100, 108, 101]⟩] 9) := by
  obtain ⟨i0, hi0, hz0, hs0, hb0⟩ := info_parts (show (Tryz.prog.info? 9).map (fun i => (i.zero, i.size, i.bytes)) = some (some (.string ⟨#[]⟩), 1, 16) by kernel_rfl)
  have hmk : madeCells #[Value.string ⟨#[]⟩] 1 = #[Value.string ⟨#[]⟩] := by kernel_rfl
  have hmin : min (1 : Int) 5 = 1 := by decide
  go_enter Tryz.func106, Tryz.ntmps106
  go_wp2_with (first
    | (go_at_call 135; refine (count_idle _).mono ?_; rintro e w' ⟨rfl, rfl⟩)
    | (refine wpList_make_row _ rfl (.tmp 30) (.tmp 30) _ rfl 9 i0 (.string ⟨#[]⟩) (by rfl) hi0 hz0 hs0 rfl .i64 .i64 1 rfl rfl (by rw [hb0]; omega) (by omega) ?_; rw [hmk])
    | go_in)
  refine wp_loop_rounds 1 ?_
  rw [rounds_succ]
  go_wp2
  go_ret
  exact ⟨rfl, rfl⟩
theorem sizeBuilder : (Tryz.prog.info? 102).map (·.size) = some 2 := by kernel_rfl
theorem liesBuilder : liesAt Tryz.prog Tryz.prog.depth 102 (2 / Tryz.prog.cellsOf 102) 0 102 1 = true := by kernel_rfl
theorem infoByte : (Tryz.prog.info? 5).map (fun i => (i.zero, i.size, i.bytes)) = some (some (.int .u8 0), 1, 1) := by kernel_rfl
theorem cellsByte : Tryz.prog.cellsOf 5 = 1 := by kernel_rfl
theorem undPB : Tryz.prog.underlying 100 = some (.pointer 102) := by kernel_rfl
theorem undUP : Tryz.prog.underlying 225 = some .unsafePointer := by kernel_rfl
theorem undB : Tryz.prog.underlying 33 = some (.slice 5) := by kernel_rfl
theorem undS : Tryz.prog.underlying 9 = some .string := by kernel_rfl
theorem undP8 : Tryz.prog.underlying 161 = some (.pointer 5) := by kernel_rfl
set_option maxHeartbeats 1000000 in
set_option maxRecDepth 100000 in
theorem copy_check (b : Nat) (w : World) (h0 : w.cell? ⟨b, 0, none⟩ = some (.pointer none)) (hsh : w.shape? b = some (102, 2)) (hfz : w.frozen? ⟨b, 0, none⟩ = false) :
    Calls Tryz.prog 82 #[.pointer (some ⟨b, 0, none⟩)] w fun e w' => e = .returned (.tuple #[]) ∧ w' = w.setCell ⟨b, 0, none⟩ (.pointer (some ⟨b, 0, none⟩)) := by
  obtain ⟨j, hj, hjs⟩ := Option.map_eq_some_iff.1 sizeBuilder
  go_enter Tryz.func82, Tryz.ntmps82
  go_wp2
  rw [Lib.run_to_unsafe w ⟨b, 0, none⟩ undPB undUP hj (by rw [hjs]; decide) hsh (Nat.zero_lt_succ 1)]
  simp only [Result.andThen]
  rw [Oper.upon_value]
  go_wp2
  rw [run_callFunc_extern Tryz.func109 (by kernel_rfl) (by kernel_rfl) (by kernel_rfl) (e := Extern.AbiNoEscape.same) (by kernel_rfl)]
  rw [Lib.run_noEscape]
  simp only [Result.andThen]
  rw [Oper.upon_value]
  go_wp2
  rw [Lib.run_from_unsafe w ⟨b, 0, none⟩ undUP undPB hj hsh liesBuilder]
  simp only [Result.andThen]
  rw [Oper.upon_value]
  go_wp2
  go_end0
  exact ⟨rfl, rfl⟩
set_option maxHeartbeats 2000000 in
set_option maxRecDepth 100000 in
theorem write_string (B b : Nat) (s : ByteArray) (w : World) (h : Lib.BuilderAt 102 5 B b (.pointer none) [] w) (hlen : s.size ≤ 140737488355328) (hBw : B ≤ w.heap.size) :
    Calls Tryz.prog 51 #[.pointer (some ⟨b, 0, none⟩), .string s] w fun e w' => e = .returned (.tuple #[.int .i64 s.size, .nilIface]) ∧ (Lib.BuilderAt 102 5 B b (.pointer (some ⟨b, 0, none⟩)) (Lib.strCells s) w' ∧ Below B w w') := by
  obtain ⟨i0, hi, hz0, hz1, hz2⟩ := info_parts infoByte
  go_enter Tryz.func51, Tryz.ntmps51
  go_wp2_with (go_at_call 82; refine (copy_check b _ h.cell0 h.shape h.frozen0).mono ?_)
  rintro e w1 ⟨rfl, rfl⟩
  have hb1 : Below B w (w.setCell ⟨b, 0, none⟩ (.pointer (some ⟨b, 0, none⟩))) := (Below.refl B w).setCell (p := ⟨b, 0, none⟩) h.1 _
  have h1 := h.used (.pointer (some ⟨b, 0, none⟩))
  generalize w.setCell ⟨b, 0, none⟩ (.pointer (some ⟨b, 0, none⟩)) = w1 at *
  obtain ⟨hB, v, hbk, hown, hne⟩ := h1
  have c0 : w1.cell? ⟨b, 0, none⟩ = some (.pointer (some ⟨b, 0, none⟩)) := by rw [Lib.cell_of_heap hbk]; rfl
  have c1 : w1.cell? ⟨b, 1, none⟩ = some v := by rw [Lib.cell_of_heap hbk]; rfl
  go_wp2_with (at_builtin; refine Lib.wpList_append_own_string _ rfl _ _ 33 9 rfl B 5 i0 undB undS hi hz0 hz1 hz2 _ _ _ rfl hown s rfl ?c3 ?c4 ?c5 ?_)
  case c3 => unfold maxLen; simp only [List.length_nil]; omega
  case c4 => simp only [List.length_nil]; omega
  case c5 => have := hb1.size; omega
  intro v' w2 hown' hgrow _
  have hlt : b < w1.heap.size := by
    rcases Nat.lt_or_ge b w1.heap.size with h' | h'
    · exact h'
    · simp [Array.getElem?_eq_none h'] at hbk
  have hb2 : w2.heap[b]? = some (.cells #[.pointer (some ⟨b, 0, none⟩), v] 102 (0, 0)) := by
    rw [hgrow.block b hlt (fun e => hne e.symm)]
    exact hbk
  have d0 : w2.cell? ⟨b, 0, none⟩ = some (.pointer (some ⟨b, 0, none⟩)) := by rw [Lib.cell_of_heap hb2]; rfl
  have d1 : w2.cell? ⟨b, 1, none⟩ = some v := by rw [Lib.cell_of_heap hb2]; rfl
  have f1 : w2.frozen? ⟨b, 1, none⟩ = false := Lib.frozen_of_heap hb2 1
  obtain ⟨ao, n', cap, rfl⟩ : ∃ ao n' cap, v' = .slice ao n' cap := by
    rcases hown'.2 with ⟨hv, _⟩ | ⟨g, cap, cur, hv, _⟩
    · exact ⟨_, _, _, hv⟩
    · exact ⟨_, _, _, hv⟩
  go_wp2
  go_ret2
  refine ⟨rfl, ?_, ?_⟩
  · exact Lib.BuilderAt.put (T := 102) (e := 5) hB hb2 (bs' := Lib.strCells s) (by simpa [Lib.strCells_length] using hown') (by decide)
  · exact (hb1.grown hgrow (by have := hb1.size; omega) (fun k hk => (hown.lt k hk).1)).setCell (p := ⟨b, 1, none⟩) hB _
set_option maxHeartbeats 1000000 in
set_option maxRecDepth 100000 in
theorem build_string (B b : Nat) (l : List UInt8) (p : Value) (w : World) (h : Lib.BuilderAt 102 5 B b p (Lib.byteCells l) w) (h0 : l ≠ []) :
    Calls Tryz.prog 53 #[.pointer (some ⟨b, 0, none⟩)] w fun e w' => e = .returned (.string ⟨l.toArray⟩) ∧ Below B w w' := by
  obtain ⟨hB, v, hbk, hown, hne⟩ := h
  have hl0 : l.length ≠ 0 := by simpa using h0
  rw [Lib.byteCells_length] at hown
  obtain ⟨g, cap, cur, rfl, hbg, hg, hnc, hcm, hcs, htake⟩ : ∃ g cap cur, v = .slice (some ⟨g, 0, none⟩) l.length cap ∧ B ≤ g ∧ w.heap[g]? = some (.cells cur 5 (0, 0)) ∧ l.length ≤ cap ∧ cap ≤ maxLen ∧ cur.size = cap * 1 ∧ cur.toList.take (l.length * 1) = Lib.byteCells l := by
    rcases hown.2 with ⟨_, hz⟩ | ⟨g, cap, cur, hv, r⟩
    · exact absurd hz hl0
    · exact ⟨g, cap, cur, hv, r⟩
  have c1 : w.drew.cell? ⟨b, 1, none⟩ = some (.slice (some ⟨g, 0, none⟩) l.length cap) := by
    have : w.drew.heap[b]? = some (.cells #[p, .slice (some ⟨g, 0, none⟩) l.length cap] 102 (0, 0)) := hbk
    rw [Lib.cell_of_heap this]; rfl
  have hSD : (Builtin.unsafeSliceData_ #[33] 161 #[.slice (some ⟨g, 0, none⟩) l.length cap]).run Tryz.prog w.drew = .ok (.pointer (some ⟨g, 0, none⟩)) w.drew :=
    Lib.run_unsafeSliceData_row _ _ _ _ _ _ (by omega)
  have hUS : (Builtin.unsafeString_ #[161, 3] 9 #[.pointer (some ⟨g, 0, none⟩), .int .i64 l.length]).run Tryz.prog w.drew = .ok (.string ⟨l.toArray⟩) (w.drew.freeze ⟨g, 0, none⟩ l.length) := by
    refine Lib.run_unsafeString_row w.drew 161 3 9 5 undP8 cellsByte g cur.size (by have hg' : w.drew.heap[g]? = some (.cells cur 5 (0, 0)) := hg; simp [World.shape?, hg']) l h0 (by omega) (by unfold maxLen at hcm; omega) ?_
    intro j x hx
    have := hown.cells (g := g) rfl j (.int .u8 x.toNat) (by simp [Lib.byteCells, hx])
    exact this
  have mixed : Tryz.prog.follows .mixedOrders = true := by kernel_rfl
  go_enter Tryz.func53, Tryz.ntmps53
  go_wp2
  go_region_o
  all_goals (go_wp2; go_ret; exact ⟨rfl, Lib.below_freeze (Below.drew (Below.refl B w)) (p := ⟨g, 0, none⟩) hbg _⟩)
theorem trim_idle (w : World) : Calls Tryz.prog 80 #[.string ⟨#[105, 100, 108, 101, 10]⟩, .string ⟨#[10]⟩] w fun e w' => e = .returned (.string ⟨#[105, 100, 108, 101]⟩) ∧ w' = w := by
  have h := trim_suffix ⟨#[105, 100, 108, 101, 10]⟩ ⟨#[10]⟩ w (by decide)
  rw [show (⟨(Lib.trimSuffix (⟨#[105, 100, 108, 101, 10]⟩ : ByteArray).data.toList (⟨#[10]⟩ : ByteArray).data.toList).toArray⟩ : ByteArray) = ⟨#[105, 100, 108, 101]⟩ by kernel_rfl] at h
  exact h
theorem prefix_idle (w : World) : Calls Tryz.prog 83 #[.string ⟨#[105, 100, 108, 101]⟩, .string ⟨#[99, 111, 110, 102, 105, 103, 32]⟩] w fun e w' => e = .returned (.bool false) ∧ w' = w := by
  have h := has_prefix ⟨#[105, 100, 108, 101]⟩ ⟨#[99, 111, 110, 102, 105, 103, 32]⟩ w
  rw [show Lib.hasPrefix (⟨#[105, 100, 108, 101]⟩ : ByteArray).data.toList (⟨#[99, 111, 110, 102, 105, 103, 32]⟩ : ByteArray).data.toList = false by kernel_rfl] at h
  exact h
set_option maxRecDepth 100000 in
theorem lines_idle (w : World) : Calls Tryz.prog 49 #[.string ⟨#[105, 100, 108, 101, 10]⟩] w fun e w' => e = .returned (.tuple #[.slice (some ⟨w.heap.size, 0, none⟩) 1 1, .int .i64 0]) ∧ w' = w.alloc (.cells #[.string ⟨#[105, 100, 108, 101]⟩] 9) := by
  go_enter Tryz.func49, Tryz.ntmps49
  go_wp2_with (first
    | (go_at_call 80; refine (trim_idle _).mono ?_; rintro e w' ⟨rfl, rfl⟩)
    | (go_at_call 106; refine (split_idle _).mono ?_; rintro e w' ⟨rfl, rfl⟩)
    | go_in)
  go_ret2
  exact ⟨rfl, rfl⟩
theorem line_idle (b : Nat) (w : World) (h : w.cell? ⟨b, 0, none⟩ = some (.pointer none)) : Calls Tryz.prog 52 #[.pointer (some ⟨b, 0, none⟩), .string ⟨#[105, 100, 108, 101]⟩] w fun e w' => e = .returned (.string ⟨#[101, 114, 114, 111, 114, 32, 53]⟩) ∧ w' = w := by
  go_enter Tryz.func52, Tryz.ntmps52
  go_wp2_with (first
    | (go_at_call 83; refine (prefix_idle _).mono ?_; rintro e w' ⟨rfl, rfl⟩)
    | (go_at_call 50; refine (answer5 _).mono ?_; rintro e w' ⟨rfl, rfl⟩)
    | go_in)
  go_ret
  exact ⟨rfl, rfl⟩
set_option maxRecDepth 100000 in
theorem play_idle (w : World) : Calls Tryz.prog 22 #[.string ⟨#[105, 100, 108, 101, 10]⟩] w fun e w' => e = .returned (.string ⟨#[101, 114, 114, 111, 114, 32, 53, 10]⟩) ∧ Below w.heap.size w w' := by
  go_enter Tryz.func22, Tryz.ntmps22
  go_wp2_with (first
    | (go_at_call 49; refine (lines_idle _).mono ?_; rintro e w' ⟨rfl, rfl⟩)
    | go_in)
  obtain ⟨w3, hw3⟩ : ∃ w3, ((w.alloc (.cells #[.string ⟨#[105, 100, 108, 101]⟩] 9)).alloc (.cells #[.pointer none, .slice none 0 0] 102)).alloc (.cells #[.pointer none] 105) = w3 := ⟨_, rfl⟩
  rw [hw3]
  have hb3 : Below w.heap.size w w3 := by
    rw [← hw3]
    exact (((Below.refl _ w).alloc (Nat.le_refl _) _).alloc (by simp) _).alloc (by simp; omega) _
  have hn : ∀ b, b < w.heap.size + 1 + 1 + 1 → w3.heap[b]? = if b = w.heap.size + 1 + 1 then some (.cells #[.pointer none] 105 (0, 0)) else if b = w.heap.size + 1 then some (.cells #[.pointer none, .slice none 0 0] 102 (0, 0)) else if b = w.heap.size then some (.cells #[.string ⟨#[105, 100, 108, 101]⟩] 9 (0, 0)) else w.heap[b]? := fun b _ => by
    rw [← hw3]
    simp only [World.alloc, Array.getElem?_push, Array.size_push]
  have hc1 : w3.cell? ⟨w.heap.size, 0, none⟩ = some (.string ⟨#[105, 100, 108, 101]⟩) := by
    rw [Lib.cell_of_heap ((hn _ (by omega)).trans (by rw [if_neg (by omega), if_neg (by omega), if_pos rfl]))]
    rfl
  have hc2 : w3.cell? ⟨w.heap.size + 1 + 1, 0, none⟩ = some (.pointer none) := by
    rw [Lib.cell_of_heap ((hn _ (by omega)).trans (by rw [if_pos rfl]))]
    rfl
  have hbd : Lib.BuilderAt 102 5 w.heap.size (w.heap.size + 1) (.pointer none) [] w3 :=
    ⟨by omega, .slice none 0 0, (hn _ (by omega)).trans (by rw [if_neg (by omega), if_pos rfl]), ⟨rfl, .inl ⟨rfl, rfl⟩⟩, by simp [Value.ownBlock]⟩
  clear hn
  have hs3 := hb3.size
  clear hw3
  refine wp_loop_rounds 2 ?_
  rw [rounds_succ]
  go_wp2_with (first
    | (go_at_call 52; refine (line_idle _ _ hc2).mono ?_; rintro e w' ⟨rfl, rfl⟩)
    | (go_at_call 51; refine (write_string w.heap.size (w.heap.size + 1) ⟨#[101, 114, 114, 111, 114, 32, 53, 10]⟩ _ hbd (by decide) hs3).mono ?_; rintro e w4 ⟨rfl, hbd4, hb4⟩)
    | go_in)
  rw [rounds_succ]
  go_wp2_with (first
    | (go_at_call 53; refine (build_string w.heap.size (w.heap.size + 1) [101, 114, 114, 111, 114, 32, 53, 10] _ _ hbd4 (by decide)).mono ?_; rintro e w5 ⟨rfl, hb5⟩)
    | go_in)
  go_ret
  exact ⟨rfl, hb3.trans (hb4.trans hb5)⟩
end Go.Proofs.YtajhndakkaniaaaGreatDoor
