/- Contracts of engine.Check and of what it calls (chapter 21). -/
import Derived.Test.YtkilljdafainbaaNum
import Derived.Deep.Light
namespace Go.Proofs.Ytkilljdafainbaa
open Go.RowKit

/-- a config's numbers -/
structure Cfg where
  engine : Int
  hosts : Int
  spines : Int
  mtu : Int
  window : Int
  k : Int
  budget : Int
  queue : Int
  credits : Int
  tables : Int
  timeout : Int
  cap : Int
  retry : Int
  maxID : Int
def Cfg.cells (c : Cfg) : Array Value := #[.int .i64 c.engine, .int .i64 c.hosts, .int .i64 c.spines, .int .i64 c.mtu, .int .i64 c.window, .int .i64 c.k, .int .i64 c.budget, .int .i64 c.queue, .int .i64 c.credits, .int .i64 c.tables, .int .i64 c.timeout, .int .i64 c.cap, .int .i64 c.retry, .int .u64 c.maxID]
def inB (n l h : Int) : Bool := decide (l ≤ n) && decide (n ≤ h)
theorem inB_yes {n l h : Int} (a : l ≤ n) (b : n ≤ h) : inB n l h = true := by simp [inB, a, b]
theorem inB_no {n l h : Int} (a : n < l ∨ h < n) : inB n l h = false := by simp [inB]; omega
theorem inB_of {n l h : Int} (a : inB n l h = true) : l ≤ n ∧ n ≤ h := by simpa [inB] using a
def pacedB (c : Cfg) : Bool :=
  if c.engine = 1 then inB c.window 0 20000 && inB c.budget (c.k * c.mtu) 1000000 else if c.engine = 2 then inB c.window 1 100 && (c.budget == 0) else if c.engine = 3 then (c.window == 0) && (c.budget == 0) else false
def okB (c : Cfg) : Bool :=
  inB c.hosts 2 8 && inB c.spines 1 4 && inB c.mtu 20 1500 && inB c.k 1 8 && inB c.tables 1 200 && inB c.timeout 10 10000 && inB c.cap c.timeout 1000000 && inB c.retry 0 1000 && (decide (1 ≤ c.maxID) && decide (c.maxID ≤ 1152921504606846976)) && inB c.credits 1 100 && inB c.queue (4 * (26 + c.mtu)) 10000000 && pacedB c
def chkI (c : Cfg) : Int := if okB c = true then 0 else 1

theorem within_any (n l h : Int) (w : World) : Calls Try.prog 14 #[.int .i64 n, .int .i64 l, .int .i64 h] w fun e w' => e = .returned (.bool (inB n l h)) ∧ w = w' := by
  go_enter Try.func14, Try.ntmps14
  go_wp2
  all_goals (go_ret; refine ⟨ret_bool ?_, rfl⟩; simp [inB]; try omega)
theorem in21_any (n l h : Int) (w : World) : Calls Try.prog 13 #[.int .i64 n, .int .i64 l, .int .i64 h] w fun e w' => e = .returned (.bool (inB n l h)) ∧ w = w' := by
  go_enter Try.func13, Try.ntmps13
  go_wp2
  all_goals (go_ret; refine ⟨ret_bool ?_, rfl⟩; simp [inB]; try omega)
def PacedPost (c : Cfg) (w : World) (e : Ending) (w' : World) : Prop := e = .returned (.bool (pacedB c)) ∧ Below w.heap.size w w'
set_option maxHeartbeats 400000 in
theorem paced_any (c : Cfg) (w : World) (k1 : 1 ≤ c.k) (k2 : c.k ≤ 8) (m1 : 20 ≤ c.mtu) (m2 : c.mtu ≤ 1500) : Calls Try.prog 15 #[.agg c.cells] w (PacedPost c w) := by
  have p0 : 0 ≤ c.k * c.mtu := Int.mul_nonneg (by omega) (by omega)
  have p1 : c.k * c.mtu ≤ 8 * 1500 := Int.mul_le_mul k2 m2 (by omega) (by decide)
  unfold Cfg.cells
  have hend : ∀ b : Bool, b = pacedB c → ∀ w', Below w.heap.size w w' → PacedPost c w (.returned (.bool b)) w' := fun b hb w' hw => ⟨by rw [hb], hw⟩
  have HE := Lib.hid hend
  clear hend
  by_cases e1 : c.engine = 1
  · have hp : pacedB c = (inB c.window 0 20000 && inB c.budget (c.k * c.mtu) 1000000) := by unfold pacedB; rw [if_pos e1]
    have HP := Lib.hid hp
    clear hp
    rw [e1]
    go_enter Try.func15, Try.ntmps15
    go_wp2_with (go_at_call 14; refine (within_any _ _ _ _).mono ?_; rintro e w' ⟨rfl, rfl⟩)
    all_goals (go_ret; exact HE.out _ (by rw [HP.out]; simp [*]) _ ((Below.refl _ _).alloc (Nat.le_refl _) _))
  by_cases e2 : c.engine = 2
  · have hp : pacedB c = (inB c.window 1 100 && (c.budget == 0)) := by unfold pacedB; rw [if_neg e1, if_pos e2]
    have HP := Lib.hid hp
    clear hp e1
    rw [e2]
    go_enter Try.func15, Try.ntmps15
    go_wp2_with (go_at_call 14; refine (within_any _ _ _ _).mono ?_; rintro e w' ⟨rfl, rfl⟩)
    all_goals (go_ret; exact HE.out _ (by rw [HP.out]; simp [*]) _ ((Below.refl _ _).alloc (Nat.le_refl _) _))
  have b1 : (c.engine == 1) = false := by simpa using e1
  have b2 : (c.engine == 2) = false := by simpa using e2
  by_cases e3 : c.engine = 3
  · have hp : pacedB c = ((c.window == 0) && (c.budget == 0)) := by unfold pacedB; rw [if_neg e1, if_neg e2, if_pos e3]
    have HP := Lib.hid hp
    clear hp e1 e2 b1 b2
    rw [e3]
    go_enter Try.func15, Try.ntmps15
    go_wp2_with fail
    all_goals (go_ret; exact HE.out _ (by rw [HP.out]; simp [*]) _ ((Below.refl _ _).alloc (Nat.le_refl _) _))
  · have b3 : (c.engine == 3) = false := by simpa using e3
    have hp : pacedB c = false := by unfold pacedB; rw [if_neg e1, if_neg e2, if_neg e3]
    have HP := Lib.hid hp
    clear hp e1 e2 e3
    go_enter Try.func15, Try.ntmps15
    go_wp2_with fail
    go_ret; exact HE.out _ (by rw [HP.out]) _ ((Below.refl _ _).alloc (Nat.le_refl _) _)
/-- both the program's and the law's text ask the same of a config -/
def ChkPost (c : Cfg) (w : World) (e : Ending) (w' : World) : Prop := e = .returned (.int .i64 (chkI c)) ∧ Below w.heap.size w w'
set_option maxRecDepth 100000 in
set_option maxHeartbeats 2000000 in
theorem check_any (c : Cfg) (w : World) : Calls Try.prog 6 #[.agg c.cells] w (ChkPost c w) := by
  have hend : ∀ n : Int, n = chkI c → ∀ w', Below w.heap.size w w' → ChkPost c w (.returned (.int .i64 n)) w' := fun b hb w' hw => ⟨by rw [hb], hw⟩
  have HE := Lib.hid hend
  clear hend
  by_cases hm : 20 ≤ c.mtu ∧ c.mtu ≤ 1500
  · by_cases hk : 1 ≤ c.k ∧ c.k ≤ 8
    · obtain ⟨m1, m2⟩ := hm
      obtain ⟨k1, k2⟩ := hk
      have hm := inB_yes m1 m2
      have hk := inB_yes k1 k2
      have hp := paced_any c
      have HPC := Lib.hid hp
      clear hp
      unfold Cfg.cells at HPC ⊢
      go_enter Try.func6, Try.ntmps6
      go_wp2_with (first
        | (go_at_call 14; refine (within_any _ _ _ _).mono ?_; rintro e w' ⟨rfl, rfl⟩)
        | (go_at_call 15; refine (HPC.out _ k1 k2 m1 m2).mono ?_; rintro e w' ⟨rfl, hb⟩))
      all_goals
        go_ret
        refine HE.out _ (by clear HE HPC; go_light; unfold chkI okB; simp_all <;> (intros; omega)) _ ?_
        first | exact (Below.refl _ _).alloc (Nat.le_refl _) _ | exact ((Below.refl _ _).alloc (Nat.le_refl _) _).trans (hb.mono (by simp))
    · have hk := inB_no (n := c.k) (l := 1) (h := 8) (by omega)
      have hm := inB_yes hm.1 hm.2
      unfold Cfg.cells
      go_enter Try.func6, Try.ntmps6
      go_wp2_with (go_at_call 14; refine (within_any _ _ _ _).mono ?_; rintro e w' ⟨rfl, rfl⟩)
      all_goals
        go_ret
        exact HE.out _ (by clear HE; go_light; unfold chkI okB; simp_all <;> (intros; omega)) _ ((Below.refl _ _).alloc (Nat.le_refl _) _)
  · have hm := inB_no (n := c.mtu) (l := 20) (h := 1500) (by omega)
    unfold Cfg.cells
    go_enter Try.func6, Try.ntmps6
    go_wp2_with (go_at_call 14; refine (within_any _ _ _ _).mono ?_; rintro e w' ⟨rfl, rfl⟩)
    all_goals
      go_ret
      exact HE.out _ (by clear HE; go_light; unfold chkI okB; simp_all <;> (intros; omega)) _ ((Below.refl _ _).alloc (Nat.le_refl _) _)
def PiecesPost (c : Cfg) (t : Int) (w : World) (e : Ending) (w' : World) : Prop := e = .returned (.int .i64 (count t c.mtu)) ∧ Below w.heap.size w w'
theorem pieces_any (c : Cfg) (t : Int) (w : World) : Calls Try.prog 7 #[.agg c.cells, .int .i64 t] w (PiecesPost c t w) := by
  unfold Cfg.cells
  go_enter Try.func7, Try.ntmps7
  go_wp2_with (go_at_call 16; refine (count_any _ _ _).mono ?_; rintro e w' ⟨rfl, rfl⟩)
  go_ret
  exact ⟨rfl, (Below.refl _ _).alloc (Nat.le_refl _) _⟩
end Go.Proofs.Ytkilljdafainbaa
