/- A set of ranges (chapter 5): Add in one form; what it holds, its sum, its gaps; nothing. -/
import Derived.Test.YtkogodoaejoooaaIvB
namespace Go.Proofs.Ytkogodoaejoooaa
open Go.RowKit

def Is.add (s : Is) (f t : Int) : Is := if s.may f t ∧ s.fr f t ≠ 0 then ⟨s.tot, put s.l f t⟩ else s
def Is.ans (s : Is) (f t : Int) : Int × Int := if s.may f t then (s.fr f t, 0) else (0, 1)
theorem add_all (b B0 : Nat) (V : Value) (s : Is) (f t : Int) (w : World) (h : Iv b B0 V s w) (ho : s.ok) (hn : s.l.length ≤ 100000) : Calls Try.prog 18 #[.pointer (some ⟨b, 0, none⟩), .int .i64 f, .int .i64 t] w fun e w' => e = .returned (.tuple #[.int .i64 (s.ans f t).1, .int .i64 (s.ans f t).2]) ∧ IvPost b B0 V (s.add f t) w w' := by
  by_cases hm : s.may f t
  · have e1 : s.ans f t = (s.fr f t, 0) := by unfold Is.ans; rw [if_pos hm]
    by_cases hz : s.fr f t = 0
    · have e2 : s.add f t = s := by unfold Is.add; rw [if_neg (fun hh => hh.2 hz)]
      rw [e1, e2, hz]
      refine (addzero_iv b B0 V s f t w h ho hm hz).mono ?_
      rintro e w' ⟨rfl, hb⟩
      exact ⟨rfl, IvPost.same h (Kept.of_below hb)⟩
    · have e2 : s.add f t = ⟨s.tot, put s.l f t⟩ := by unfold Is.add; rw [if_pos ⟨hm, hz⟩]
      rw [e1, e2]
      exact addyes_iv b B0 V s f t w h ho hm hz hn
  · have e1 : s.ans f t = (0, 1) := by unfold Is.ans; rw [if_neg hm]
    have e2 : s.add f t = s := by unfold Is.add; rw [if_neg (fun hh => hm hh.1)]
    rw [e1, e2]
    refine (addno_iv b B0 V s f t w h hm).mono ?_
    rintro e w' ⟨rfl, hb⟩
    exact ⟨rfl, IvPost.same h (Kept.of_below hb)⟩
theorem fr_pos {s : Is} (ho : s.ok) {f t : Int} (hm : s.may f t) (hz : s.fr f t ≠ 0) : f < t := by
  have h1 := fresh_nonneg ho.asc hm.2.1
  have h2 := cov_nonneg s.l f t
  unfold Is.fr at hz
  have := hm.2.1
  omega
theorem add_ok {s : Is} (ho : s.ok) (f t : Int) : (s.add f t).ok := by
  unfold Is.add
  split
  · rename_i h
    exact ⟨ho.t0, ho.t1, put_asc ho.asc h.1.1 (fr_pos ho h.1 h.2) h.1.2.2⟩
  · exact ho
theorem add_len (s : Is) (f t : Int) : (s.add f t).l.length ≤ s.l.length + 1 := by
  unfold Is.add
  split
  · exact put_len _ _ _
  · exact Nat.le_succ _
theorem add_tot (s : Is) (f t : Int) : (s.add f t).tot = s.tot := by
  unfold Is.add; split <;> rfl
theorem add_mem {s : Is} (ho : s.ok) (f t x : Int) : mem (s.add f t).l x ↔ mem s.l x ∨ (s.may f t ∧ f ≤ x ∧ x < t) := by
  unfold Is.add
  by_cases hm : s.may f t
  · by_cases hz : s.fr f t = 0
    · rw [if_neg (fun hh => hh.2 hz)]
      have h1 := (fresh_zero ho.asc hm.2.1).1 hz
      exact ⟨.inl, fun h => h.elim id (fun h => h1 x h.2.1 h.2.2)⟩
    · rw [if_pos ⟨hm, hz⟩]
      refine (put_mem ho.asc hm.2.1).trans ?_
      exact ⟨fun h => h.imp id (fun h => ⟨hm, h⟩), fun h => h.imp id (fun h => h.2)⟩
  · rw [if_neg (fun hh => hm hh.1)]
    exact ⟨.inl, fun h => h.elim id (fun h => absurd h.1 hm)⟩
theorem ranges_iv (b B0 : Nat) (V : Value) (s : Is) (w : World) (h : Iv b B0 V s w) (hn : s.l.length ≤ 100000) : Calls Try.prog 16 #[.pointer (some ⟨b, 0, none⟩)] w fun e w' => ∃ v', e = .returned v' ∧ w'.ownsRow w.heap.size TR 2 v' s.l.length (s.l.flatMap Rg.row) ∧ Below w.heap.size w w' := by
  obtain ⟨a, c, hv, _, _⟩ := (Rd.of_own h.own).form
  obtain ⟨lb, cb, fb⟩ := h.ob.blk
  have c1 : w.cell? ⟨b, 1, none⟩ = some (.slice a s.l.length c) := by rw [cb 1, hv]; rfl
  have hrd := Rd.of_own h.own
  rw [hv] at hrd
  clear cb hv h
  go_enter Try.func16, Try.ntmps16
  go_wp2_with fail
  refine (clone_rg _ _ _ w hrd (one_rg s.l) (by omega)).mono ?_
  rintro e w1 ⟨v', rfl, ho, hb⟩
  have HO := Lib.hid ho
  have HB := Lib.hid hb
  clear ho hb hrd
  go_wp2_with fail
  go_ret
  exact ⟨v', rfl, HO.out, HB.out⟩
theorem rangesnil_iv (w : World) : Calls Try.prog 16 #[.pointer none] w fun e w' => e = .returned (.slice none 0 0) ∧ w = w' := by
  go_enter Try.func16, Try.ntmps16
  go_wp2_with fail
  go_ret
  exact ⟨rfl, rfl⟩
set_option maxRecDepth 100000 in
set_option maxHeartbeats 2000000 in
theorem sum_iv (b B0 : Nat) (V : Value) (s : Is) (w : World) (h : Iv b B0 V s w) (ho : s.ok) (hn : s.l.length ≤ 100000) : Calls Try.prog 21 #[.pointer (some ⟨b, 0, none⟩)] w fun e w' => e = .returned (.int .i64 (total s.l)) ∧ Below w.heap.size w w' := by
  have HO := Lib.hid ho
  have t1 := ho.t1
  have t0 := ho.t0
  clear ho
  go_enter Try.func21, Try.ntmps21
  go_wp2_with fail
  refine (ranges_iv b B0 V s w h hn).mono ?_
  rintro e w1 ⟨v', rfl, ho1, hb1⟩
  obtain ⟨a, c, rfl, _, _⟩ := (Rd.of_own ho1).form
  have HR := Lib.hid (Rd.of_own ho1)
  have HB := Lib.hid hb1
  have s1 := hb1.size
  clear ho1 hb1 h
  go_wp2_with fail
  go_loopw [2, 8] (fun n i wr => ∃ k : Nat, i = .int .i64 k ∧ k ≤ s.l.length ∧ n = .int .i64 (total (s.l.take k)) ∧ Below w1.heap.size w1 wr) (fun _ i _ => s.l.length - (intOf i).toNat)
  case atStart => exact ⟨0, rfl, Nat.zero_le _, rfl, Below.refl _ _⟩
  case round =>
    obtain ⟨k, rfl, hk, rfl, hb⟩ := hrel
    have HBk := Lib.hid hb
    by_cases hlt : k < s.l.length
    · obtain ⟨g, o, rfl, hg, cwa⟩ := Rd.row rowRg (by decide) (HR.out.below hb) k hlt
      have h3 := asc_le HO.out.asc s.l[k] (List.getElem_mem hlt)
      have h4 := total_le (HO.out.asc.take k)
      have e1 := total_step hlt
      have h6 := total_le (HO.out.asc.take (k + 1))
      have c0 := cwa 0 (.int .i64 s.l[k].f) rfl
      have c2 := cwa 1 (.int .i64 s.l[k].t) rfl
      rw [Nat.add_zero] at c0
      have hsz := hb.size
      obtain ⟨C, HC⟩ : ∃ C, Hid (total (s.l.take k) = C) := ⟨_, Lib.hid rfl⟩
      obtain ⟨C', HC'⟩ : ∃ C', Hid (total (s.l.take (k + 1)) = C') := ⟨_, Lib.hid rfl⟩
      generalize s.l[k].f = rf at *
      generalize s.l[k].t = rt at *
      rw [HC.out] at h4 e1 ⊢
      rw [HC'.out] at h6 e1
      have w1' : IntKind.i64.wrap (rt - rf) = rt - rf := by rw [IntKind.wrap_i64]; omega
      have w2' : IntKind.i64.wrap (C + (rt - rf)) = C + (rt - rf) := by rw [IntKind.wrap_i64]; omega
      have E1 := Lib.hid e1
      clear e1 h4 h6 hb cwa
      go_wp2_with fail
      go_roundw
      case rel => exact ⟨k + 1, by go_num, by omega, by rw [HC'.out, E1.out], HBk.out.alloc hsz _⟩
      case measure => simp [intOf]; omega
    · obtain rfl : k = s.l.length := by omega
      rw [List.take_length]
      go_wp2_with fail
      go_ret
      exact ⟨rfl, HB.out.trans (HBk.out.mono s1)⟩
theorem sumnil_iv (w : World) : Calls Try.prog 21 #[.pointer none] w fun e w' => e = .returned (.int .i64 0) ∧ w = w' := by
  go_enter Try.func21, Try.ntmps21
  go_wp2_with fail
  refine (rangesnil_iv w).mono ?_
  rintro e w1 ⟨rfl, rfl⟩
  go_wp2_with fail
  go_loopw [2, 8] (fun n i wr => i = .int .i64 0 ∧ n = .int .i64 0 ∧ w = wr) (fun _ i _ => 0)
  case atStart => exact ⟨rfl, rfl, rfl⟩
  case round =>
    obtain ⟨rfl, rfl, rfl⟩ := hrel
    go_wp2_with fail
    go_ret
    exact ⟨rfl, rfl⟩
set_option maxRecDepth 100000 in
theorem full_iv (b B0 : Nat) (V : Value) (s : Is) (w : World) (h : Iv b B0 V s w) (ho : s.ok) (hn : s.l.length ≤ 100000) : Calls Try.prog 19 #[.pointer (some ⟨b, 0, none⟩)] w fun e w' => e = .returned (.bool (total s.l == s.tot)) ∧ Below w.heap.size w w' := by
  obtain ⟨lb, cb, fb⟩ := h.ob.blk
  have c0 := cb 0
  clear cb
  go_enter Try.func19, Try.ntmps19
  go_wp2_with fail
  refine wp_run (M := (fun _ => False)) (stages [([true, true, true, true, false, true, true, true, true, false, false, false], 4)] [false, false, false, false, false, false, false, false, false, true, true, true]) (by kernel_rfl) (by kernel_rfl) ?_
  refine run_stage rfl ?_
  simp only [pickAt]
  repeat (go_big_quiet_step (fail))
  refine wpQuiet_nil ?_
  refine run_want rfl ?_
  intro A hA
  go_simp
  refine (sum_iv b B0 V s _ (h.keptF (Kept.drew _ _)) ho hn).mono ?_
  rintro e w3 ⟨rfl, hb3⟩
  have HB3 := Lib.hid hb3
  refine hA _ _ ((Kept.of_below hb3)) ?_
  try simp only [Act.put, List.setIfInBounds_toArray, List.set_cons_zero, List.set_cons_succ]
  clear A hA
  clear hb3
  refine run_last ?_
  simp only [pickAt]
  repeat (go_big_quiet_step (fail))
  refine wpQuiet_nil ?_
  go_wp2_with fail
  go_ret
  exact ⟨rfl, (Below.refl w.heap.size w).drew.trans HB3.out⟩
theorem fullnil_iv (w : World) : Calls Try.prog 19 #[.pointer none] w fun e w' => e = .returned (.bool false) ∧ Below w.heap.size w w' := by
  go_enter Try.func19, Try.ntmps19
  go_wp2_with fail
  refine wp_region_quiet_lit (by kernel_rfl) (by kernel_rfl) ?_
  try simp only [List.append]
  repeat (first | go_big_quiet_step (fail) | quiet_step (fail))
  refine wpQuiet_nil ?_
  intro W hW
  have hkW := Lib.hid hW
  clear hW
  go_wp2_with fail
  go_ret
  obtain ⟨q, rfl⟩ := hkW.out
  exact ⟨rfl, below_dn (Below.refl _ _)⟩
theorem addnil_iv (f t : Int) (w : World) : Calls Try.prog 18 #[.pointer none, .int .i64 f, .int .i64 t] w fun e w' => e = .returned (.tuple #[.int .i64 0, .int .i64 1]) ∧ Below w.heap.size w w' := by
  have HB := Lib.hid ((Below.refl w.heap.size w).alloc (Nat.le_refl _) (.cells #[.int .i64 f] 3))
  obtain ⟨ln, cn, fn⟩ := (Ob.new w #[.int .i64 f] 3).blk
  have c0 : (w.alloc (.cells #[.int .i64 f] 3)).cell? ⟨w.heap.size, 0, none⟩ = some (.int .i64 f) := cn 0
  clear cn fn
  go_enter Try.func18, Try.ntmps18
  go_wp2_with fail
  refine (maynil_iv f t _).mono ?_
  rintro e w1 ⟨rfl, rfl⟩
  go_wp2_with fail
  go_ret2
  exact ⟨rfl, HB.out⟩
theorem freshnil_iv (f t : Int) (w : World) : Calls Try.prog 26 #[.pointer none, .int .i64 f, .int .i64 t] w fun e w' => e = .returned (.int .i64 0) ∧ w = w' := by
  go_enter Try.func26, Try.ntmps26
  go_wp2_with fail
  refine (maynil_iv f t w).mono ?_
  rintro e w1 ⟨rfl, rfl⟩
  go_wp2_with fail
  go_ret
  exact ⟨rfl, rfl⟩
theorem frontnil_iv (w : World) : Calls Try.prog 22 #[.pointer none] w fun e w' => e = .returned (.int .i64 0) ∧ w = w' := by
  go_enter Try.func22, Try.ntmps22
  go_wp2_with fail
  go_ret
  exact ⟨rfl, rfl⟩
theorem gapsnil_iv (f t : Int) (w : World) : Calls Try.prog 23 #[.pointer none, .int .i64 f, .int .i64 t] w fun e w' => e = .returned (.slice none 0 0) ∧ w = w' := by
  go_enter Try.func23, Try.ntmps23
  go_wp2_with fail
  go_ret
  exact ⟨rfl, rfl⟩
end Go.Proofs.Ytkogodoaejoooaa
