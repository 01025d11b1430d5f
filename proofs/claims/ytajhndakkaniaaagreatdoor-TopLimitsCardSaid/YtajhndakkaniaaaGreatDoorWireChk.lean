/- The check of frames (wire, chapter 10, and the reference's). Printed by gencheck.py. -/
import Derived.Test.YtajhndakkaniaaaGreatDoorWire
namespace Go.Proofs.YtajhndakkaniaaaGreatDoor
open Go.RowKit

def Fr.val (f : Fr) (v : Value) : Value := .agg #[.int .i64 f.kind, .int .i64 f.src, .int .i64 f.dst, .int .i64 f.prio, .int .u64 f.msg, .int .i64 f.off, .int .i64 f.len, .int .i64 f.total, .int .i64 f.num, v]
theorem okF_iff (f : Fr) (hm : 0 ≤ f.msg) : okF f ↔ (1 ≤ f.kind ∧ f.kind ≤ 12 ∧ 0 ≤ f.src ∧ f.src ≤ 7 ∧ 0 ≤ f.dst ∧ f.dst ≤ 7 ∧ 0 ≤ f.prio ∧ f.prio ≤ 7 ∧ f.msg ≤ 1152921504606846976 ∧ 0 ≤ f.off ∧ f.off ≤ 1073741824 ∧ 0 ≤ f.total ∧ f.total ≤ 1073741824 ∧ 0 ≤ f.len ∧ f.len ≤ 1500 ∧ 0 ≤ f.num ∧ f.num ≤ 1073741824 ∧
    (f.kind = 1 ∨ f.kind = 7 → f.off + f.len ≤ f.total) ∧ (f.kind = 1 → (f.data.length : Int) = f.len) ∧ (f.kind ≠ 1 → (f.data.length : Int) = 0)) := by
  constructor
  · intro h
    have := h.kind; have := h.src; have := h.dst; have := h.prio; have := h.msg; have := h.off; have := h.total; have := h.len; have := h.num
    have hd := h.data
    refine ⟨by omega, by omega, by omega, by omega, by omega, by omega, by omega, by omega, by omega, by omega, by omega, by omega, by omega, by omega, by omega, by omega, by omega, h.fits, fun hk => ?_, fun hk => ?_⟩
    · rw [if_pos hk] at hd; exact hd
    · rw [if_neg hk] at hd; exact hd
  · rintro ⟨h1, h2, h3, h4, h5, h6, h7, h8, h9, h10, h11, h12, h13, h14, h15, h16, h17, h18, h19, h20⟩
    refine ⟨⟨h1, h2⟩, ⟨h3, h4⟩, ⟨h5, h6⟩, ⟨h7, h8⟩, ⟨hm, h9⟩, ⟨h10, h11⟩, ⟨h12, h13⟩, ⟨h14, h15⟩, ⟨h16, h17⟩, h18, ?_⟩
    split
    · rename_i hk; exact h19 hk
    · rename_i hk; exact h20 hk
def CheckPost (f : Fr) (w : World) (e : Ending) (w' : World) : Prop := (okF f ∧ e = .returned (.int .i64 0) ∨ ¬ okF f ∧ e = .returned (.int .i64 1)) ∧ Below w.heap.size w w'
theorem check_post (f : Fr) (w : World) (e : Ending) (w' : World) (h : okF f ∧ e = .returned (.int .i64 0) ∨ ¬ okF f ∧ e = .returned (.int .i64 1)) (hb : Below w.heap.size w w') : CheckPost f w e w' := ⟨h, hb⟩
theorem within_yes (n h : Int) (w : World) (h1 : 0 ≤ n) (h2 : n ≤ h) : Calls Tryz.prog 100 #[.int .i64 n, .int .i64 h] w fun e w' => e = .returned (.bool true) ∧ w = w' := by
  go_enter Tryz.func100, Tryz.ntmps100
  go_wp2_with fail
  go_ret
  exact ⟨rfl, rfl⟩
theorem within_low (n h : Int) (w : World) (h1 : n < 0) : Calls Tryz.prog 100 #[.int .i64 n, .int .i64 h] w fun e w' => e = .returned (.bool false) ∧ w = w' := by
  go_enter Tryz.func100, Tryz.ntmps100
  go_wp2_with fail
  go_ret
  exact ⟨rfl, rfl⟩
theorem within_high (n h : Int) (w : World) (h1 : 0 ≤ n) (h2 : h < n) : Calls Tryz.prog 100 #[.int .i64 n, .int .i64 h] w fun e w' => e = .returned (.bool false) ∧ w = w' := by
  have h3 : decide (n ≤ h) = false := by simp; omega
  go_enter Tryz.func100, Tryz.ntmps100
  go_wp2_with fail
  go_ret
  exact ⟨rfl, rfl⟩
end Go.Proofs.YtajhndakkaniaaaGreatDoor
