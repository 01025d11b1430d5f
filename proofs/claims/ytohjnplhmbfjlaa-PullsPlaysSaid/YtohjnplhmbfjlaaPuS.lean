/- Who waits (chapter 18): the document's Of, Len, Drop. -/
import Derived.Test.YtohjnplhmbfjlaaPuR
namespace Go.Proofs.Ytohjnplhmbfjlaa
open Go.RowKit

def Rf.none : Rf := ⟨0, 0, 0, 0⟩
def rat (l : List Rf) : Option Nat → Rf
  | .none => Rf.none
  | some i => l.getD i Rf.none
theorem rat_some {l : List Rf} {i : Nat} (h : i < l.length) : rat l (some i) = l[i] := by
  show l.getD i Rf.none = _
  rw [List.getD_eq_getElem?_getD, List.getElem?_eq_getElem h]; rfl
theorem idx_lt {l : List Rf} {q : Rf → Bool} {i : Nat} (h : l.findIdx? q = some i) : i < l.length := by
  obtain ⟨a, _⟩ := List.findIdx?_eq_some_iff_getElem.1 h
  exact a
set_option maxRecDepth 100000 in
set_option maxHeartbeats 2000000 in
theorem rof (b B0 : Nat) (V : Value) (s : Rs) (p id : Int) (w : World) (h : Rp b B0 V s w) (hl : s.l.length ≤ 1000000) :
    Calls Try.prog 16 #[.pointer (some ⟨b, 0, none⟩), .int .i64 p, .int .u64 id] w fun e w' => e = .returned (.tuple #[.int .i64 (rat s.l (s.l.findIdx? (Rf.is p id))).wt, .int .i64 (rat s.l (s.l.findIdx? (Rf.is p id))).ct]) ∧ Kept (fun _ => False) w w' := by
  have HP := Lib.hid h
  obtain ⟨lb, cb, fb⟩ := h.ob.blk
  have c1 : w.cell? ⟨b, 1, none⟩ = some V := cb 1
  have HR := Lib.hid (Rd.of_own h.own)
  obtain ⟨a, c, hv, _, _⟩ := HR.out.form
  rw [hv] at c1 HR
  clear cb h hv
  go_enter Try.func16, Try.ntmps16
  go_wp2_with fail
  refine (rfind b B0 V s p id _ HP.out hl).mono ?_
  rintro e w1 ⟨rfl, rfl⟩
  cases hf : s.l.findIdx? (Rf.is p id) with
  | none =>
    have HF := Lib.hid hf
    clear hf
    simp only [optI]
    go_wp2_with fail
    go_ret2
    exact ⟨by rw [HF.out]; rfl, Kept.refl _ _⟩
  | some i =>
    have hlt := idx_lt hf
    obtain ⟨g, o, rfl, hg, cw⟩ := Rd.row rowRf (by decide) HR.out i hlt
    have HF := Lib.hid hf
    have HL := Lib.hid (rat_some hlt)
    obtain ⟨x, HX⟩ : ∃ x, Hid (s.l[i] = x) := ⟨_, Lib.hid rfl⟩
    rw [HX.out] at cw HL
    have cf2 := cw 2 (.int .i64 x.wt) rfl
    have cf3 := cw 3 (.int .i64 x.ct) rfl
    clear cw hf
    simp only [optI]
    go_wp2_with fail
    refine wp_region_quiet_lit (by kernel_rfl) (by kernel_rfl) ?_
    try simp only [List.append]
    repeat (first | go_big_quiet_step (fail) | quiet_step (fail))
    refine wpQuiet_nil ?_
    intro W hW
    have hk := kept_ex hW
    clear hW
    go_wp2_with fail
    go_ret2
    exact ⟨by rw [HF.out, HL.out]; rfl, hk⟩
def RfOk (x : Rf) : Prop := 0 ≤ x.wt ∧ x.wt ≤ 1073741824
def sumR (l : List Rf) : Int := (l.map Rf.wt).sum
theorem sumR_take {l : List Rf} {j : Nat} (h : j < l.length) : sumR (l.take (j + 1)) = sumR (l.take j) + l[j].wt := by
  unfold sumR
  rw [List.take_succ_eq_append_getElem h, List.map_append, List.sum_append]
  simp
theorem sumR_le : ∀ (l : List Rf), (∀ x ∈ l, RfOk x) → 0 ≤ sumR l ∧ sumR l ≤ 1073741824 * l.length
  | [], _ => ⟨Int.le_refl _, Int.le_refl _⟩
  | x :: l, h => by
    have h1 := sumR_le l (fun y hy => h y (List.mem_cons_of_mem _ hy))
    have h2 := h x (List.mem_cons_self ..)
    have e : sumR (x :: l) = x.wt + sumR l := by simp [sumR]
    rw [e]
    have h3 := h2.1
    have h4 := h2.2
    simp only [List.length_cons]
    omega
set_option maxRecDepth 100000 in
set_option maxHeartbeats 2000000 in
theorem rlen (b B0 : Nat) (V : Value) (s : Rs) (w : World) (h : Rp b B0 V s w) (hl : s.l.length ≤ 1000000) (ho : ∀ x ∈ s.l, RfOk x) :
    Calls Try.prog 19 #[.pointer (some ⟨b, 0, none⟩)] w fun e w' => e = .returned (.int .i64 (sumR s.l)) ∧ w = w' := by
  obtain ⟨lb, cb, fb⟩ := h.ob.blk
  have c1 : w.cell? ⟨b, 1, none⟩ = some V := cb 1
  have HR := Lib.hid (Rd.of_own h.own)
  have HO := Lib.hid ho
  obtain ⟨a, c, hv, _, _⟩ := HR.out.form
  rw [hv] at c1 HR
  clear cb h hv ho
  go_enter Try.func19, Try.ntmps19
  go_wp2_with fail
  go_loopw [3, 4] (fun n i wr => ∃ j : Nat, i = .int .i64 j ∧ n = .int .i64 (sumR (s.l.take j)) ∧ j ≤ s.l.length ∧ w = wr) (fun _ i _ => s.l.length - (intOf i).toNat)
  case atStart => exact ⟨0, rfl, by simp [sumR], Nat.zero_le _, rfl⟩
  case round =>
    obtain ⟨j, rfl, rfl, hj, rfl⟩ := hrel
    by_cases hlt : j < s.l.length
    · obtain ⟨g, o, rfl, hg, cw⟩ := Rd.row rowRf (by decide) HR.out j hlt
      have HSW := Lib.hid (sumR_take hlt)
      have hxo := HO.out _ (List.getElem_mem hlt)
      have hst := sumR_le (s.l.take j) (fun y hy => HO.out y (List.mem_of_mem_take hy))
      have hsl : (s.l.take j).length ≤ 1000000 := by rw [List.length_take]; omega
      obtain ⟨x, HX⟩ : ∃ x, Hid (s.l[j] = x) := ⟨_, Lib.hid rfl⟩
      rw [HX.out] at cw hxo HSW
      have cf2 := cw 2 (.int .i64 x.wt) rfl
      obtain ⟨q1, q2⟩ := hxo
      obtain ⟨M, HM⟩ : ∃ M, Hid (sumR (s.l.take j) = M) := ⟨_, Lib.hid rfl⟩
      rw [HM.out] at hst HSW ⊢
      obtain ⟨m0, m1⟩ := hst
      have m2 : M ≤ 1073741824 * 1000000 := by omega
      clear cw
      go_wp2_with fail
      go_roundw
      case rel => exact ⟨j + 1, by go_num, by rw [HSW.out], by omega, trivial⟩
      case measure => simp [intOf]; omega
    · obtain rfl : s.l.length = j := by omega
      rw [List.take_length]
      go_wp2_with fail
      go_ret
      exact ⟨rfl, rfl⟩
end Go.Proofs.Ytohjnplhmbfjlaa
