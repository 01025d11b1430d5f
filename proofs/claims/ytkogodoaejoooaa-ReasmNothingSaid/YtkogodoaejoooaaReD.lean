/- A message that comes in pieces (chapter 7): Data, Left; nothing. -/
import Derived.Test.YtkogodoaejoooaaReP
namespace Go.Proofs.Ytkogodoaejoooaa
open Go.RowKit

set_option maxRecDepth 100000 in
theorem data_bf (b B g S : Nat) (V : Value) (l : List UInt8) (s : Is) (w : World) (h : Bf b B g S V l s w) (ho : s.ok) (hn : s.l.length ≤ 1000) (hl : l.length ≤ 1073741824) :
    Calls Try.prog 10 #[.pointer (some ⟨b, 0, none⟩)] w fun e w' => ∃ v', e = .returned (.tuple #[v', .bool (total s.l == s.tot)]) ∧ Below w.heap.size w w' ∧ (total s.l = s.tot → w'.ownsRow w.heap.size TU 1 v' l.length (bcells l)) := by
  have HB := Lib.hid h
  obtain ⟨lb, cb, fb⟩ := h.ob.blk
  have c0 : w.cell? ⟨b, 0, none⟩ = some (.slice (some ⟨g, 0, none⟩) l.length l.length) := cb 0
  have c1 : w.cell? ⟨b, 1, none⟩ = some (.pointer (some ⟨S, 0, none⟩)) := cb 1
  clear cb h
  go_enter Try.func10, Try.ntmps10
  go_wp2_with fail
  refine (full_iv S B V s _ HB.out.set ho (by omega)).mono ?_
  rintro e w1 ⟨rfl, hb1⟩
  have HB1 := Lib.hid (HB.out.below hb1)
  have HBB := Lib.hid hb1
  clear hb1 c0 c1 lb fb
  obtain ⟨lb, cb, fb⟩ := HB1.out.ob.blk
  have c0 : w1.cell? ⟨b, 0, none⟩ = some (.slice (some ⟨g, 0, none⟩) l.length l.length) := cb 0
  clear cb
  by_cases hf : total s.l = s.tot
  · have hfb : (total s.l == s.tot) = true := beq_iff_eq.2 hf
    have HF := Lib.hid hf
    clear hf
    rw [hfb]
    have hrd := Rd.of_own HB1.out.row
    go_wp2_with fail
    refine (clone_u8 _ _ _ _ hrd (bcells_one l) (by omega)).mono ?_
    rintro e w2 ⟨v2, rfl, ho2, hb2⟩
    have HO2 := Lib.hid (own_base ho2 HBB.out.size)
    have HB2 := Lib.hid (HBB.out.trans (hb2.mono HBB.out.size))
    clear ho2 hb2 hrd
    go_wp2_with fail
    go_ret2
    exact ⟨v2, by rw [beq_iff_eq.2 HF.out]; rfl, HB2.out, fun _ => HO2.out⟩
  · have hfb : (total s.l == s.tot) = false := beq_eq_false_iff_ne.2 hf
    have HF := Lib.hid hf
    clear hf
    rw [hfb]
    go_wp2_with fail
    go_ret2
    exact ⟨.slice none 0 0, by rw [beq_eq_false_iff_ne.2 HF.out]; rfl, HBB.out, fun hh => absurd hh HF.out⟩
set_option maxRecDepth 100000 in
theorem left_bf (b B g S : Nat) (V : Value) (l : List UInt8) (s : Is) (w : World) (h : Bf b B g S V l s w) (ho : s.ok) (ht : s.tot = l.length) (hn : s.l.length ≤ 1000) :
    Calls Try.prog 11 #[.pointer (some ⟨b, 0, none⟩)] w fun e w' => e = .returned (.int .i64 (l.length - total s.l)) ∧ Below w.heap.size w w' := by
  have HB := Lib.hid h
  obtain ⟨lb, cb, fb⟩ := h.ob.blk
  have c0 : w.cell? ⟨b, 0, none⟩ = some (.slice (some ⟨g, 0, none⟩) l.length l.length) := cb 0
  have c1 : w.cell? ⟨b, 1, none⟩ = some (.pointer (some ⟨S, 0, none⟩)) := cb 1
  have h1 := total_le ho.asc
  have h2 := ho.t1
  have h3 := ho.t0
  have hw : IntKind.i64.wrap ((l.length : Int) - total s.l) = (l.length : Int) - total s.l := by rw [IntKind.wrap_i64]; omega
  clear cb h h1 h2 h3 ht
  go_enter Try.func11, Try.ntmps11
  go_wp2_with fail
  refine wp_run (M := (fun _ => False)) (stages [([true, true, true, true, true, true, true, true, true, false, false, false], 9)] [false, false, false, false, false, false, false, false, false, false, true, true]) (by kernel_rfl) (by kernel_rfl) ?_
  refine run_stage rfl ?_
  simp only [pickAt]
  repeat (go_big_quiet_step (fail))
  refine wpQuiet_nil ?_
  refine run_want rfl ?_
  intro A hA
  go_simp
  refine (sum_iv S B V s _ (HB.out.set.keptF (Kept.drew _ _)) ho (by omega)).mono ?_
  rintro e w3 ⟨rfl, hb3⟩
  have HB3 := Lib.hid hb3
  refine hA _ _ ((Kept.of_below hb3)) ?_
  try simp only [Act.put, List.setIfInBounds_toArray, List.set_cons_zero, List.set_cons_succ]
  clear A hA
  clear hb3
  refine run_last ?_
  simp only [pickAt]
  repeat (go_big_quiet_step (fail))
  refine wpQuiet_nil ?_
  go_wp2_with fail
  go_ret
  exact ⟨rfl, (Below.refl w.heap.size w).drew.trans HB3.out⟩
theorem newbig_bf (n most : Int) (w : World) (h0 : 0 ≤ n) (h1 : most < n) (h2 : n ≤ 1073741824) (h3 : 0 ≤ most) : Calls Try.prog 7 #[.int .i64 n, .int .i64 most] w fun e w' => e = .returned (.tuple #[.pointer none, .int .i64 3]) ∧ w = w' := by
  go_enter Try.func7, Try.ntmps7
  go_wp2_with fail
  go_ret2
  exact ⟨rfl, rfl⟩
theorem putnil_bf (off : Int) (v : Value) (w : World) : Calls Try.prog 9 #[.pointer none, .int .i64 off, v] w fun e w' => e = .returned (.tuple #[.int .i64 0, .int .i64 1]) ∧ w = w' := by
  go_enter Try.func9, Try.ntmps9
  go_wp2_with fail
  go_ret2
  exact ⟨rfl, rfl⟩
theorem datanil_bf (w : World) : Calls Try.prog 10 #[.pointer none] w fun e w' => e = .returned (.tuple #[.slice none 0 0, .bool false]) ∧ w = w' := by
  go_enter Try.func10, Try.ntmps10
  go_wp2_with fail
  go_ret2
  exact ⟨rfl, rfl⟩
theorem leftnil_bf (w : World) : Calls Try.prog 11 #[.pointer none] w fun e w' => e = .returned (.int .i64 0) ∧ w = w' := by
  go_enter Try.func11, Try.ntmps11
  go_wp2_with fail
  go_ret
  exact ⟨rfl, rfl⟩
theorem totalnil_bf (w : World) : Calls Try.prog 12 #[.pointer none] w fun e w' => e = .returned (.int .i64 0) ∧ w = w' := by
  go_enter Try.func12, Try.ntmps12
  go_wp2_with fail
  go_ret
  exact ⟨rfl, rfl⟩
theorem frontnil_bf (w : World) : Calls Try.prog 13 #[.pointer none] w fun e w' => e = .returned (.int .i64 0) ∧ w = w' := by
  go_enter Try.func13, Try.ntmps13
  go_wp2_with fail
  go_ret
  exact ⟨rfl, rfl⟩
theorem gapsnil_bf (f t : Int) (w : World) : Calls Try.prog 14 #[.pointer none, .int .i64 f, .int .i64 t] w fun e w' => e = .returned (.slice none 0 0) ∧ w = w' := by
  go_enter Try.func14, Try.ntmps14
  go_wp2_with fail
  go_ret
  exact ⟨rfl, rfl⟩
end Go.Proofs.Ytkogodoaejoooaa
