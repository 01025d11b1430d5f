/- Contracts of bucket's pacer (chapter 3) and of the reference's. -/
import Derived.Test.YtoihhidoafgoaaaBucket
import Derived.Test.YtoihhidoafgoaaaRun
namespace Go.Proofs.Ytoihhidoafgoaaa
open Go.RowKit

/-- a pacer: every, now, last, ever -/
structure Pc where
  e : Int
  n : Int
  l : Int
  v : Bool
def Pc.x (s : Pc) : Int := if s.v = true then s.l + s.e else 0
def Pc.cI (s : Pc) : Array Value := #[.int .i64 s.e, .int .i64 s.n, .int .i64 s.x]
def Pc.cM (s : Pc) : Array Value := #[.int .i64 s.e, .int .i64 s.n, .int .i64 s.l, .bool s.v]
structure Pc.ok (s : Pc) : Prop where
  e0 : 1 ≤ s.e
  e1 : s.e ≤ 1073741824
  n0 : 0 ≤ s.n
  n1 : s.n ≤ 1125899906842624
  l0 : 0 ≤ s.l
  l1 : s.l ≤ s.n
def Pc.due (s : Pc) (now : Int) : Bool := decide (s.x ≤ tick s.n now)
def Pc.go (s : Pc) (now : Int) : Pc := if s.due now = true then ⟨s.e, tick s.n now, tick s.n now, true⟩ else ⟨s.e, tick s.n now, s.l, s.v⟩
theorem Pc.go_ok {s : Pc} (h : s.ok) (now : Int) : (s.go now).ok := by
  obtain ⟨h1, h2, h3, h4, h5, h6⟩ := h
  have := tick_b s.n now h3 h4
  unfold Pc.go
  split
  · exact ⟨h1, h2, by show 0 ≤ tick s.n now; omega, this.2, by show 0 ≤ tick s.n now; omega, by show tick s.n now ≤ tick s.n now; omega⟩
  · exact ⟨h1, h2, by show 0 ≤ tick s.n now; omega, this.2, h5, by show s.l ≤ tick s.n now; omega⟩
theorem Pc.x_b {s : Pc} (h : s.ok) : 0 ≤ s.x ∧ s.x ≤ 1125900980584448 := by
  obtain ⟨h1, h2, h3, h4, h5, h6⟩ := h
  unfold Pc.x; split <;> omega
def Pc.nx (s : Pc) : Int := min (max s.x s.n) 1125899906842624
def PcI (b : Nat) (s : Pc) (w : World) : Prop := Ob w b s.cI 140
theorem PcI.at {b : Nat} {s : Pc} {w : World} (h : PcI b s w) : b < w.heap.size ∧ w.cell? ⟨b, 0, none⟩ = some (.int .i64 s.e) ∧ w.cell? ⟨b, 1, none⟩ = some (.int .i64 s.n) ∧ w.cell? ⟨b, 2, none⟩ = some (.int .i64 s.x) ∧ ∀ i, w.frozen? ⟨b, i, none⟩ = false := by
  obtain ⟨h1, h2, h3⟩ := Ob.blk h
  exact ⟨h1, h2 0, h2 1, h2 2, h3⟩
def PPost (b : Nat) (s : Pc) (v : Value) (w : World) (e : Ending) (w' : World) : Prop := e = .returned v ∧ PcI b s w' ∧ Kept (Only b) w w'
set_option maxRecDepth 100000 in
set_option maxHeartbeats 400000 in
theorem pgo_any (b : Nat) (s : Pc) (now : Int) (w : World) (h : PcI b s w) (hok : s.ok) : Calls Try.prog 69 #[.pointer (some ⟨b, 0, none⟩), .int .i64 now] w (PPost b (s.go now) (.bool (s.due now)) w) := by
  obtain ⟨x0, x1⟩ := Pc.x_b hok
  obtain ⟨h1, h2, h3, h4, h5, h6⟩ := hok
  have ht := tick_b s.n now h3 h4
  have HB := Lib.hid h
  obtain ⟨lb, c0, c1, c2, fb⟩ := h.at
  clear h
  by_cases hd : s.x ≤ tick s.n now
  · have he : s.due now = true := by simp [Pc.due, hd]
    have hs : s.go now = ⟨s.e, tick s.n now, tick s.n now, true⟩ := by unfold Pc.go; rw [if_pos he]
    rw [he, hs]
    clear he hs
    have hb1 : decide (tick s.n now < s.x) = false := by simp; omega
    have hb2 : (s.e == 0) = false := by simp; omega
    go_enter Try.func69, Try.ntmps69
    go_wp2_with (go_at_call 67; refine (clamp_any _ _ _ _).mono ?_; rintro e w' ⟨rfl, rfl⟩; rw [clamp_tick _ _ h4])
    go_quiet (fail)
    go_wp2_with fail
    refine region_tail 10 (by kernel_rfl) (by kernel_rfl) ?_
    simp only [List.take_succ_cons, List.take_zero, List.drop_succ_cons, List.drop_zero]
    repeat (first | still_step)
    refine wpStill_nil ?_
    go_wp2
    go_ret
    exact ⟨rfl, (HB.out.set 1 _).dn.set 2 _, ((Kept.refl _ _).setO.dnR _).setO⟩
  · have he : s.due now = false := by simp [Pc.due]; omega
    have hs : s.go now = ⟨s.e, tick s.n now, s.l, s.v⟩ := by unfold Pc.go; rw [he]; rfl
    rw [he, hs]
    clear he hs
    have hb1 : decide (tick s.n now < s.x) = true := by simp; omega
    go_enter Try.func69, Try.ntmps69
    go_wp2_with (go_at_call 67; refine (clamp_any _ _ _ _).mono ?_; rintro e w' ⟨rfl, rfl⟩; rw [clamp_tick _ _ h4])
    go_quiet (fail)
    go_wp2_with fail
    go_ret
    exact ⟨rfl, (HB.out.set 1 _).dn, (Kept.refl _ _).setO.dnR _⟩
def PNewPost (e : Int) (w : World) (en : Ending) (w' : World) : Prop := en = .returned (.tuple #[.pointer (some ⟨w.heap.size, 0, none⟩), .int .i64 0]) ∧ PcI w.heap.size ⟨e, 0, 0, false⟩ w' ∧ Below w.heap.size w w'
theorem pnew_yes (e : Int) (w : World) (h : 1 ≤ e ∧ e ≤ 1073741824) : Calls Try.prog 62 #[.int .i64 e] w (PNewPost e w) := by
  obtain ⟨h1, h2⟩ := h
  go_enter Try.func62, Try.ntmps62
  go_wp2_with fail
  go_ret2
  exact ⟨rfl, Ob.new _ _ _, (Below.refl _ _).alloc (Nat.le_refl _) _⟩
theorem pnew_no (e : Int) (w : World) (h : ¬ (1 ≤ e ∧ e ≤ 1073741824)) : Calls Try.prog 62 #[.int .i64 e] w fun en w' => en = .returned (.tuple #[.pointer none, .int .i64 1]) ∧ w = w' := by
  have hc : e < 1 ∨ 1073741824 < e := by omega
  clear h
  rcases hc with h | h
  all_goals
    go_enter Try.func62, Try.ntmps62
    go_wp2_with fail
    all_goals (go_ret2; exact ⟨rfl, rfl⟩)
end Go.Proofs.Ytoihhidoafgoaaa
