/- The law WheelPlays (chapter 2): the contracts of both wheels in one form. -/
import Derived.Test.YtlibnjhoggfhfaaWheelR3
namespace Go.Proofs.Ytlibnjhoggfhfaa
open Go.RowKit

def Wl.bad (at' : Int) : Prop := at' < 0 ∨ 1125899906842624 < at'
instance (at' : Int) : Decidable (Wl.bad at') := by unfold Wl.bad; exact inferInstance
def Wl.ans (s : Wl) (at' : Int) : Int × Int := if Wl.bad at' then (0, 1) else if s.most ≤ (s.l.length : Int) then (0, 4) else (s.last + 1, 0)
def Wl.add (s : Wl) (at' z : Int) : Wl := if Wl.bad at' then s else if s.most ≤ (s.l.length : Int) then s else s.plus at' (.int .i64 z)
theorem add_all (b B0 : Nat) (V : Value) (s : Wl) (at' z : Int) (w : World) (h : Wh TW TD b B0 V s w) (ho : s.ok) (hl : s.last < 1000000000) :
    Calls Try.prog 10 #[.pointer (some ⟨b, 0, none⟩), .int .i64 at', .int .i64 z] w fun e w' => e = .returned (.tuple #[.int .i64 (s.ans at').1, .int .i64 (s.ans at').2]) ∧ WhPost TW TD b B0 V (s.add at' z) w w' := by
  by_cases hb : Wl.bad at'
  · have e1 : s.ans at' = (0, 1) := by unfold Wl.ans; rw [if_pos hb]
    have e2 : s.add at' z = s := by unfold Wl.add; rw [if_pos hb]
    rw [e1, e2]
    refine (addno_dui _ at' z w hb).mono ?_
    rintro e w' ⟨rfl, rfl⟩
    exact ⟨rfl, WhPost.same h (Kept.refl _ _)⟩
  · have hb' := hb
    unfold Wl.bad at hb'
    by_cases hf : s.most ≤ (s.l.length : Int)
    · have e1 : s.ans at' = (0, 4) := by unfold Wl.ans; rw [if_neg hb, if_pos hf]
      have e2 : s.add at' z = s := by unfold Wl.add; rw [if_neg hb, if_pos hf]
      rw [e1, e2]
      refine (addfull_dui b B0 V s at' z w h (by omega) (by omega) hf).mono ?_
      rintro e w' ⟨rfl, hq⟩
      exact ⟨rfl, WhPost.same h (kept_ex hq)⟩
    · have e1 : s.ans at' = (s.last + 1, 0) := by unfold Wl.ans; rw [if_neg hb, if_neg hf]
      have e2 : s.add at' z = s.plus at' (.int .i64 z) := by unfold Wl.add; rw [if_neg hb, if_neg hf]
      rw [e1, e2]
      exact add_dui b B0 V s at' z w h ho (by omega) (by omega) (by omega) hl
theorem radd_all (b B0 : Nat) (V : Value) (s : Wl) (at' z : Int) (w : World) (h : Wh TRW TRD b B0 V s w) (ho : s.ok) (hl : s.last < 1000000000) :
    Calls Try.prog 15 #[.pointer (some ⟨b, 0, none⟩), .int .i64 at', .int .i64 z] w fun e w' => e = .returned (.tuple #[.int .i64 (s.ans at').1, .int .i64 (s.ans at').2]) ∧ WhPost TRW TRD b B0 V (s.add at' z) w w' := by
  by_cases hb : Wl.bad at'
  · have e1 : s.ans at' = (0, 1) := by unfold Wl.ans; rw [if_pos hb]
    have e2 : s.add at' z = s := by unfold Wl.add; rw [if_pos hb]
    rw [e1, e2]
    refine (raddno _ at' z w hb).mono ?_
    rintro e w' ⟨rfl, rfl⟩
    exact ⟨rfl, WhPost.same h (Kept.refl _ _)⟩
  · have hb' := hb
    unfold Wl.bad at hb'
    by_cases hf : s.most ≤ (s.l.length : Int)
    · have e1 : s.ans at' = (0, 4) := by unfold Wl.ans; rw [if_neg hb, if_pos hf]
      have e2 : s.add at' z = s := by unfold Wl.add; rw [if_neg hb, if_pos hf]
      rw [e1, e2]
      refine (raddfull b B0 V s at' z w h (by omega) (by omega) hf).mono ?_
      rintro e w' ⟨rfl, hq⟩
      exact ⟨rfl, WhPost.same h hq⟩
    · have e1 : s.ans at' = (s.last + 1, 0) := by unfold Wl.ans; rw [if_neg hb, if_neg hf]
      have e2 : s.add at' z = s.plus at' (.int .i64 z) := by unfold Wl.add; rw [if_neg hb, if_neg hf]
      rw [e1, e2]
      exact radd b B0 V s at' z w h ho (by omega) (by omega) (by omega) hl
/-- what a law of integers asks of a state: it may be, and holds integers -/
structure Wl.good (s : Wl) (k : Nat) : Prop where
  ok : s.ok
  last : s.last ≤ (k : Int)
  ints : ∀ x ∈ s.l, ∃ z, x.v = .int .i64 z
theorem add_good {s : Wl} {k : Nat} (h : s.good k) (hk : k ≤ 100) (at' z : Int) : (s.add at' z).good (k + 1) := by
  have hl := h.last
  unfold Wl.add
  split
  · exact ⟨h.ok, by omega, h.ints⟩
  · split
    · exact ⟨h.ok, by omega, h.ints⟩
    · refine ⟨plus_ok h.ok rfl (by omega) (by omega), by show s.last + 1 ≤ _; omega, fun x hx => ?_⟩
      rcases plus_mem.1 hx with rfl | hx
      · exact ⟨z, rfl⟩
      · exact h.ints x hx
theorem less_good {s : Wl} {k : Nat} (h : s.good k) (id : Int) : (s.less id).good (k + 1) :=
  ⟨less_ok h.ok id, by have := h.last; show s.last ≤ _; omega, fun x hx => h.ints x (List.mem_of_mem_eraseP hx)⟩
theorem goes_good {s : Wl} {k : Nat} (h : s.good k) (tn : Int) : (s.goes tn).good (k + 1) :=
  ⟨goes_ok h.ok tn, by have := h.last; show s.last ≤ _; omega, fun x hx => h.ints x (List.mem_of_mem_drop hx)⟩
theorem good_more {s : Wl} {k : Nat} (h : s.good k) : s.good (k + 1) := ⟨h.ok, by have := h.last; omega, h.ints⟩
def Wl.nx (s : Wl) : Int := (s.l.head?.map (·.at')).getD 0
theorem next_all (b B0 : Nat) (V : Value) (s : Wl) (w : World) (h : Wh TW TD b B0 V s w) :
    Calls Try.prog 19 #[.pointer (some ⟨b, 0, none⟩)] w fun e w' => e = .returned (.tuple #[.int .i64 s.nx, .bool (decide (0 < s.l.length))]) ∧ w = w' := by
  rcases Nat.eq_zero_or_pos s.l.length with h0 | h0
  · have e1 : s.nx = 0 := by unfold Wl.nx; rw [List.eq_nil_of_length_eq_zero h0]; rfl
    have e2 : decide (0 < s.l.length) = false := decide_eq_false (by omega)
    rw [e1, e2]
    go_enter Try.func19, Try.ntmps19
    have HL := Lib.hid h0
    clear h0
    go_wp2_with fail
    refine (len_dui b B0 V s w h).mono ?_
    rintro e w1 ⟨rfl, rfl⟩
    rw [HL.out]
    go_wp2_with fail
    go_ret2
    exact ⟨rfl, rfl⟩
  · obtain ⟨a, c, hv, _, _⟩ := (Rd.of_own h.own).form
    obtain ⟨lb, cb, fb⟩ := h.ob.blk
    have c3 := cb 3
    rw [hv] at c3
    have hrd := Rd.of_own h.own
    rw [hv] at hrd
    obtain ⟨g, o, rfl, hg, cwa⟩ := Rd.row rowDu (by decide) hrd 0 h0
    have c0 := cwa 0 (.int .i64 s.l[0].at') rfl
    rw [Nat.add_zero] at c0
    have e1 : s.nx = s.l[0].at' := by unfold Wl.nx; rw [List.head?_eq_getElem?, List.getElem?_eq_getElem h0]; rfl
    have e2 : decide (0 < s.l.length) = true := decide_eq_true h0
    have e3 : ((s.l.length : Int) == 0) = false := by rw [beq_eq_false_iff_ne]; omega
    rw [e1, e2]
    generalize s.l[0].at' = y at *
    clear cwa cb hrd hv e1
    go_enter Try.func19, Try.ntmps19
    go_wp2_with fail
    refine (len_dui b B0 V s w h).mono ?_
    rintro e w1 ⟨rfl, rfl⟩
    go_wp2_with fail
    go_ret2
    exact ⟨rfl, rfl⟩
set_option maxRecDepth 100000 in
set_option maxHeartbeats 4000000 in
theorem same_all (l : List Du) (va vb : Value) (w : World) (h : Rd w 3 va l.length (l.flatMap Du.row)) (h' : Rd w 3 vb l.length (l.flatMap Du.row)) (hz : ∀ x ∈ l, ∃ z, x.v = .int .i64 z) :
    Calls Try.prog 17 #[va, vb] w fun e w' => e = .returned (.bool true) ∧ Kept (fun _ => False) w w' := by
  obtain ⟨a, c, rfl, _, _⟩ := h.form
  obtain ⟨a', c', rfl, _, _⟩ := h'.form
  have HR := Lib.hid h
  have HR' := Lib.hid h'
  clear h h'
  go_enter Try.func17, Try.ntmps17
  go_wp2_with fail
  go_loopw [5] (fun i wr => ∃ k : Nat, i = .int .i64 k ∧ k ≤ l.length ∧ Kept (fun _ => False) w wr) (fun i _ => l.length - (intOf i).toNat)
  case atStart => exact ⟨0, rfl, Nat.zero_le _, Kept.refl _ _⟩
  case round =>
    obtain ⟨k, rfl, hk, hkp⟩ := hrel
    have HKP := Lib.hid hkp
    by_cases hlt : k < l.length
    · obtain ⟨g, o, rfl, hg, cwa⟩ := Rd.row rowDu (by decide) (HR.out.keptF hkp) k hlt
      obtain ⟨g', o', rfl, hg', cwb⟩ := Rd.row rowDu (by decide) (HR'.out.keptF hkp) k hlt
      obtain ⟨z, hzz⟩ := hz l[k] (List.getElem_mem hlt)
      have c0 := cwa 0 (.int .i64 l[k].at') rfl
      have c1 := cwa 1 (.int .i64 l[k].id) rfl
      have c2 := cwa 2 l[k].v rfl
      have d0 := cwb 0 (.int .i64 l[k].at') rfl
      have d1 := cwb 1 (.int .i64 l[k].id) rfl
      have d2 := cwb 2 l[k].v rfl
      rw [hzz] at c2 d2
      rw [Nat.add_zero] at c0 d0
      generalize l[k].at' = y at *
      generalize l[k].id = y2 at *
      clear cwa cwb hzz hkp
      go_wp2_with fail
      refine wp_region_quiet_lit (by kernel_rfl) (by kernel_rfl) ?_
      try simp only [List.append]
      repeat (first | go_big_quiet_step (fail) | quiet_step (fail))
      refine wpQuiet_nil ?_
      intro W hW
      have hkW := kept_ex hW
      have HKW := Lib.hid (HKP.out.trans hkW)
      clear hkW hW
      go_wp2_with fail
      go_roundw
      case rel => exact ⟨k + 1, by go_num, by omega, HKW.out⟩
      case measure => simp [intOf]; omega
    · obtain rfl : k = l.length := by omega
      go_wp2_with fail
      go_ret
      exact ⟨rfl, hkp⟩
end Go.Proofs.Ytlibnjhoggfhfaa
