/- What the law's own text asks of a config (chapter 21). -/
import Derived.Test.YtkilljdafainbaaCfg

namespace Go.Proofs.Ytkilljdafainbaa
open Go.RowKit

def MayPost (c : Cfg) (w : World) (e : Ending) (w' : World) : Prop := e = .returned (.bool (okB c)) ∧ Below w.heap.size w w'
theorem engine_of (c : Cfg) : (inB c.engine 1 3 = false → okB c = false) ∧ (inB c.engine 1 3 = true → c.engine = 1 ∨ c.engine = 2 ∨ c.engine = 3) := by
  constructor
  · intro h
    have : ¬ (1 ≤ c.engine ∧ c.engine ≤ 3) := fun hh => by rw [inB_yes hh.1 hh.2] at h; cases h
    have hp : pacedB c = false := by unfold pacedB; rw [if_neg (by omega), if_neg (by omega), if_neg (by omega)]
    simp [okB, hp]
  · intro h
    have := inB_of h
    omega
set_option maxRecDepth 100000 in
set_option maxHeartbeats 4000000 in
theorem may_1 (c : Cfg) (w : World) (heng : inB c.engine 1 3 = true) (hm : 20 ≤ c.mtu ∧ c.mtu ≤ 1500) (hk : 1 ≤ c.k ∧ c.k ≤ 8) : Calls Try.prog 5 #[.agg c.cells] w (MayPost c w) := by
  have hend : ∀ b : Bool, b = okB c → ∀ w', Below w.heap.size w w' → MayPost c w (.returned (.bool b)) w' := fun b hb w' hw => ⟨by rw [hb], hw⟩
  have HE := Lib.hid hend
  have HG := Lib.hid ((engine_of c).2 heng)
  clear hend
  obtain ⟨m1, m2⟩ := hm
  obtain ⟨k1, k2⟩ := hk
  have hm := inB_yes m1 m2
  have hk := inB_yes k1 k2
  have p0 : 0 ≤ c.k * c.mtu := Int.mul_nonneg (by omega) (by omega)
  have p1 : c.k * c.mtu ≤ 8 * 1500 := Int.mul_le_mul k2 m2 (by omega) (by decide)
  unfold Cfg.cells
  go_enter Try.func5, Try.ntmps5
  go_wp2_with (go_at_call 13; refine (in21_any _ _ _ _).mono ?_; rintro e w' ⟨rfl, rfl⟩)
  all_goals go_ret
  all_goals refine HE.out _ ?_ _ ((Below.refl _ _).alloc (Nat.le_refl _) _)
  all_goals (have he := HG.out; clear HE HG p0 p1; go_light)
  all_goals first
    | (simp [okB, *]; done)
    | (rename_i t8; rcases t8 with (t8 | t8) | t8 <;> first | (exfalso; omega) | (simp_all [okB]; done))
    | (rcases he with he | he | he <;> simp_all [okB, pacedB]; done)
    | (rcases he with he | he | he <;> simp_all [okB, pacedB] <;> (intros; omega))

set_option maxRecDepth 100000 in
set_option maxHeartbeats 2000000 in
theorem may_4 (c : Cfg) (w : World) (heng : inB c.engine 1 3 = true) (hm : 20 ≤ c.mtu ∧ c.mtu ≤ 1500) (hk : ¬ (1 ≤ c.k ∧ c.k ≤ 8)) : Calls Try.prog 5 #[.agg c.cells] w (MayPost c w) := by
  have hend : ∀ b : Bool, b = okB c → ∀ w', Below w.heap.size w w' → MayPost c w (.returned (.bool b)) w' := fun b hb w' hw => ⟨by rw [hb], hw⟩
  have HE := Lib.hid hend
  clear hend
  have hk := inB_no (n := c.k) (l := 1) (h := 8) (by omega)
  have hm := inB_yes hm.1 hm.2
  unfold Cfg.cells
  go_enter Try.func5, Try.ntmps5
  go_wp2_with (go_at_call 13; refine (in21_any _ _ _ _).mono ?_; rintro e w' ⟨rfl, rfl⟩)
  all_goals
    go_ret
    exact HE.out _ (by clear HE; go_light; unfold okB; simp_all <;> (intros; omega)) _ ((Below.refl _ _).alloc (Nat.le_refl _) _)
set_option maxRecDepth 100000 in
set_option maxHeartbeats 2000000 in
theorem may_5 (c : Cfg) (w : World) (heng : inB c.engine 1 3 = true) (hm : ¬ (20 ≤ c.mtu ∧ c.mtu ≤ 1500)) : Calls Try.prog 5 #[.agg c.cells] w (MayPost c w) := by
  have hend : ∀ b : Bool, b = okB c → ∀ w', Below w.heap.size w w' → MayPost c w (.returned (.bool b)) w' := fun b hb w' hw => ⟨by rw [hb], hw⟩
  have HE := Lib.hid hend
  clear hend
  have hm := inB_no (n := c.mtu) (l := 20) (h := 1500) (by omega)
  unfold Cfg.cells
  go_enter Try.func5, Try.ntmps5
  go_wp2_with (go_at_call 13; refine (in21_any _ _ _ _).mono ?_; rintro e w' ⟨rfl, rfl⟩)
  all_goals
    go_ret
    exact HE.out _ (by clear HE; go_light; unfold okB; simp_all <;> (intros; omega)) _ ((Below.refl _ _).alloc (Nat.le_refl _) _)
set_option maxRecDepth 100000 in
set_option maxHeartbeats 2000000 in
theorem may_6 (c : Cfg) (w : World) (heng : inB c.engine 1 3 = false) : Calls Try.prog 5 #[.agg c.cells] w (MayPost c w) := by
  have hend : ∀ b : Bool, b = okB c → ∀ w', Below w.heap.size w w' → MayPost c w (.returned (.bool b)) w' := fun b hb w' hw => ⟨by rw [hb], hw⟩
  have HE := Lib.hid hend
  clear hend
  have HG := Lib.hid (engine_of c)
  unfold Cfg.cells
  go_enter Try.func5, Try.ntmps5
  go_wp2_with (go_at_call 13; refine (in21_any _ _ _ _).mono ?_; rintro e w' ⟨rfl, rfl⟩)
  all_goals
    go_ret
    exact HE.out _ (by rw [HG.out.1 heng]) _ ((Below.refl _ _).alloc (Nat.le_refl _) _)
theorem may_any (c : Cfg) (w : World) : Calls Try.prog 5 #[.agg c.cells] w (MayPost c w) := by
  have heng : inB c.engine 1 3 = true ∨ inB c.engine 1 3 = false := by cases inB c.engine 1 3 <;> simp
  rcases heng with heng | heng
  · by_cases hm : 20 ≤ c.mtu ∧ c.mtu ≤ 1500
    · by_cases hk : 1 ≤ c.k ∧ c.k ≤ 8
      · exact may_1 c w heng hm hk
      · exact may_4 c w heng hm hk
    · exact may_5 c w heng hm
  · exact may_6 c w heng
end Go.Proofs.Ytkilljdafainbaa
