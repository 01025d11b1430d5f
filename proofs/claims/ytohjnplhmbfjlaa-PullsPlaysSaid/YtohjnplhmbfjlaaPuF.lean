/- Who waits (chapter 18): Len. -/
import Derived.Test.YtohjnplhmbfjlaaPuE
namespace Go.Proofs.Ytohjnplhmbfjlaa
open Go.RowKit

theorem lennil_pu (w : World) : Calls Try.prog 11 #[.pointer none] w fun e w' => e = .returned (.int .i64 0) ∧ w = w' := by
  go_enter Try.func11, Try.ntmps11
  go_wp2_with fail
  go_ret
  exact ⟨rfl, rfl⟩
def sumW (l : List Fl) : Int := (l.map Fl.wt).sum
def sumTo (L : Nat → List Fl) : Nat → Int
  | 0 => 0
  | n + 1 => sumTo L n + sumW (L n)
def pagg (V : Nat → Value) (Z : Nat → Int) : Value := .agg #[V 0, .int .u64 (Z 0), V 1, .int .u64 (Z 1), V 2, .int .u64 (Z 2), V 3, .int .u64 (Z 3), V 4, .int .u64 (Z 4), V 5, .int .u64 (Z 5), V 6, .int .u64 (Z 6), V 7, .int .u64 (Z 7)]
theorem pix (V : Nat → Value) (Z : Nat → Int) {k : Nat} (hk : k < 8) (w : World) : (Instr.index 52 (pagg V Z) (.int .i64 k)).run Try.prog w = .ok (.agg #[V k, .int .u64 (Z k)]) w := by
  rcases eight hk with rfl | rfl | rfl | rfl | rfl | rfl | rfl | rfl <;> kernel_rfl
theorem sumW_le {N : Int} : ∀ (l : List Fl), (∀ x ∈ l, FlOk N x) → 0 ≤ sumW l ∧ sumW l ≤ 1073741824 * l.length
  | [], _ => ⟨Int.le_refl _, Int.le_refl _⟩
  | x :: l, h => by
    have h1 := sumW_le l (fun y hy => h y (List.mem_cons_of_mem _ hy))
    have h2 := h x (List.mem_cons_self ..)
    have e : sumW (x :: l) = x.wt + sumW l := by simp [sumW]
    rw [e]
    have h3 := h2.2.2.1
    have h4 := h2.2.2.2.1
    simp only [List.length_cons]
    omega
theorem sumTo_le {s : Ps} {N : Int} (h : s.ok N) : ∀ k, k ≤ 8 → 0 ≤ sumTo s.L k ∧ sumTo s.L k ≤ 1073741824 * 10000 * k
  | 0, _ => ⟨Int.le_refl _, Int.le_refl _⟩
  | k + 1, hk => by
    have h1 := sumTo_le h k (by omega)
    have h2 := sumW_le (s.L k) (h.fl k (by omega))
    have h3 := h.len (show k < 8 by omega)
    have e : ((k + 1 : Nat) : Int) = (k : Int) + 1 := by omega
    show 0 ≤ sumTo s.L k + sumW (s.L k) ∧ sumTo s.L k + sumW (s.L k) ≤ _
    rw [e]
    have h4 : (((s.L k).length : Nat) : Int) ≤ 10000 := by omega
    omega
theorem sumW_take {l : List Fl} {j : Nat} (h : j < l.length) : sumW (l.take (j + 1)) = sumW (l.take j) + l[j].wt := by
  unfold sumW
  rw [List.take_succ_eq_append_getElem h, List.map_append, List.sum_append]
  simp
set_option maxRecDepth 100000 in
set_option maxHeartbeats 4000000 in
theorem len_pu (b B0 : Nat) (V : Nat → Value) (s : Ps) (N : Int) (w : World) (h : Pu b B0 V s w) (ho : s.ok N) :
    Calls Try.prog 11 #[.pointer (some ⟨b, 0, none⟩)] w fun e w' => e = .returned (.int .i64 (sumTo s.L 8)) ∧ Below w.heap.size w w' := by
  have HP := Lib.hid h
  have HO := Lib.hid ho
  obtain ⟨lb, cb, fb⟩ := h.ob.blk
  unfold pcells at cb
  clear h ho
  go_enter Try.func11, Try.ntmps11
  go_wp2_with fail
  clear cb fb
  go_loopw [2, 13] (fun n i wr => ∃ k : Nat, k ≤ 8 ∧ i = .int .i64 k ∧ n = .int .i64 (sumTo s.L k) ∧ Below w.heap.size w wr) (fun _ i _ => 8 - (intOf i).toNat)
  case atStart => exact ⟨0, by omega, rfl, rfl, Below.refl _ _⟩
  case round =>
    obtain ⟨k, hk, rfl, rfl, hb⟩ := hrel
    have HB := Lib.hid hb
    have sb := hb.size
    clear hb
    by_cases h8 : k < 8
    · obtain ⟨m0, m1⟩ := sumTo_le HO.out k hk
      have hln := HO.out.len h8
      have hix := fun w => pix V s.Z h8 w
      unfold pagg at hix
      obtain ⟨a, c, hv, _, _⟩ := (Rd.of_own (HP.out.own k h8)).form
      have HRD := Lib.hid (Rd.of_own (HP.out.own k h8))
      rw [hv] at HRD hix
      clear hv
      have h8' : (k : Int) < 8 := by omega
      go_wp2_with fail
      have HBA := Lib.hid (HB.out.alloc sb (.cells #[.slice a (s.L k).length c, .int .u64 (s.Z k)] 51))
      generalize wr.alloc (.cells #[.slice a (s.L k).length c, .int .u64 (s.Z k)] 51) = wa at *
      clear hix
      go_loopw [2, 19] (fun n i wi => ∃ j : Nat, j ≤ (s.L k).length ∧ i = .int .i64 j ∧ n = .int .i64 (sumTo s.L k + sumW ((s.L k).take j)) ∧ Below w.heap.size w wi) (fun _ i _ => (s.L k).length - (intOf i).toNat)
      case atStart => exact ⟨0, by omega, rfl, by simp [sumW], HBA.out⟩
      case round =>
        obtain ⟨j, hj, rfl, rfl, hb⟩ := hrel
        have HBJ := Lib.hid hb
        have sj := hb.size
        clear hb
        by_cases hlt : j < (s.L k).length
        · obtain ⟨g, o, rfl, hg, cw⟩ := Rd.row rowFl (by decide) (HRD.out.below HBJ.out) j hlt
          have HSW := Lib.hid (sumW_take hlt)
          have hxo := HO.out.fl k h8 _ (List.getElem_mem hlt)
          have hst := sumW_le ((s.L k).take j) (fun y hy => HO.out.fl k h8 y (List.mem_of_mem_take hy))
          have hsl : ((s.L k).take j).length ≤ 10000 := by rw [List.length_take]; omega
          generalize (s.L k)[j] = x at *
          have cf0 := cw 0 (.int .u64 x.id) rfl
          have cf1 := cw 1 (.int .i64 x.wt) rfl
          have cf2 := cw 2 (.int .i64 x.pl) rfl
          rw [Nat.add_zero] at cf0
          obtain ⟨q1, q2, q3, q4, q5, q6⟩ := hxo
          generalize hM : sumW ((s.L k).take j) = M at *
          have hM0 : sumTo s.L k + M ≤ 10737418240000 * 9 := by
            have : (((s.L k).take j).length : Int) ≤ 10000 := by omega
            omega
          clear cw
          go_wp2_with fail
          go_roundw
          case rel => exact ⟨j + 1, by omega, by go_num, by rw [HSW.out, Int.add_assoc], HBJ.out.alloc sj _⟩
          case measure => simp [intOf]; omega
        · obtain rfl : j = (s.L k).length := by omega
          go_wp2_with fail
          go_roundw
          case rel => exact ⟨k + 1, by omega, by go_num, by rw [List.take_length]; rfl, HBJ.out⟩
          case measure => simp [intOf]; omega
    · obtain rfl : k = 8 := by omega
      go_wp2_with fail
      go_ret
      exact ⟨rfl, HB.out⟩
end Go.Proofs.Ytohjnplhmbfjlaa
