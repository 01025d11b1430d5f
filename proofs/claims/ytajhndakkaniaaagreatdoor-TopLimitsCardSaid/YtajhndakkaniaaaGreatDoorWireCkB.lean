/- The check of frames (the reference, chapter 10). Printed by gencheck.py. -/
import Derived.Test.YtajhndakkaniaaaGreatDoorWireChk
namespace Go.Proofs.YtajhndakkaniaaaGreatDoor
open Go.RowKit
set_option maxRecDepth 100000 in
set_option maxHeartbeats 8000000 in
theorem check_ref (f : Fr) (v : Option Addr) (cp : Nat) (hm : 0 ≤ f.msg) (w : World) : Calls Tryz.prog 34 #[f.val (.slice v f.data.length cp)] w (CheckPost f w) := by
  have hd := okF_iff f hm
  obtain ⟨kind, src, dst, prio, msg, off, len, total, num, data⟩ := f
  have HE := Lib.hid (check_post ⟨kind, src, dst, prio, msg, off, len, total, num, data⟩ w)
  simp only [Fr.val] at *
  generalize okF ⟨kind, src, dst, prio, msg, off, len, total, num, data⟩ = ok at *
  generalize data.length = n at *
  have hn : (0 : Int) ≤ n := by omega
  rcases (by omega : kind < 1 ∨ (1 ≤ kind ∧ 12 < kind) ∨ (1 ≤ kind ∧ kind ≤ 12)) with g0 | ⟨g0, g0'⟩ | ⟨g0, g0'⟩
  · skip
    have hok : ¬ ok := fun h => by
      obtain ⟨q1, q2, q3, q4, q5, q6, q7, q8, q9, q10, q11, q12, q13, q14, q15, q16, q17, q18, q19, q20⟩ := hd.1 h
      omega
    have HK := Lib.hid hok
    clear hd hok hm
    go_enter Tryz.func34, Tryz.ntmps34
    go_wp2_with fail
    go_ret
    exact HE.out _ _ (.inr ⟨HK.out, rfl⟩) ((Below.refl _ _).alloc (Nat.le_refl _) _)
  · skip
    have hok : ¬ ok := fun h => by
      obtain ⟨q1, q2, q3, q4, q5, q6, q7, q8, q9, q10, q11, q12, q13, q14, q15, q16, q17, q18, q19, q20⟩ := hd.1 h
      omega
    have HK := Lib.hid hok
    clear hd hok hm
    go_enter Tryz.func34, Tryz.ntmps34
    go_wp2_with fail
    go_ret
    exact HE.out _ _ (.inr ⟨HK.out, rfl⟩) ((Below.refl _ _).alloc (Nat.le_refl _) _)
  by_cases kk : kind = 1
  · skip
    subst kk
    rcases (by omega : src < 0 ∨ (0 ≤ src ∧ 7 < src) ∨ (0 ≤ src ∧ src ≤ 7)) with g1 | ⟨g1, g1'⟩ | ⟨g1, g1'⟩
    · skip
      have hok : ¬ ok := fun h => by
        obtain ⟨q1, q2, q3, q4, q5, q6, q7, q8, q9, q10, q11, q12, q13, q14, q15, q16, q17, q18, q19, q20⟩ := hd.1 h
        omega
      have HK := Lib.hid hok
      clear hd hok hm
      go_enter Tryz.func34, Tryz.ntmps34
      go_wp2_with fail
      go_ret
      exact HE.out _ _ (.inr ⟨HK.out, rfl⟩) ((Below.refl _ _).alloc (Nat.le_refl _) _)
    · skip
      have hok : ¬ ok := fun h => by
        obtain ⟨q1, q2, q3, q4, q5, q6, q7, q8, q9, q10, q11, q12, q13, q14, q15, q16, q17, q18, q19, q20⟩ := hd.1 h
        omega
      have HK := Lib.hid hok
      clear hd hok hm
      go_enter Tryz.func34, Tryz.ntmps34
      go_wp2_with fail
      go_ret
      exact HE.out _ _ (.inr ⟨HK.out, rfl⟩) ((Below.refl _ _).alloc (Nat.le_refl _) _)
    rcases (by omega : dst < 0 ∨ (0 ≤ dst ∧ 7 < dst) ∨ (0 ≤ dst ∧ dst ≤ 7)) with g2 | ⟨g2, g2'⟩ | ⟨g2, g2'⟩
    · skip
      have hok : ¬ ok := fun h => by
        obtain ⟨q1, q2, q3, q4, q5, q6, q7, q8, q9, q10, q11, q12, q13, q14, q15, q16, q17, q18, q19, q20⟩ := hd.1 h
        omega
      have HK := Lib.hid hok
      clear hd hok hm
      go_enter Tryz.func34, Tryz.ntmps34
      go_wp2_with fail
      go_ret
      exact HE.out _ _ (.inr ⟨HK.out, rfl⟩) ((Below.refl _ _).alloc (Nat.le_refl _) _)
    · skip
      have hok : ¬ ok := fun h => by
        obtain ⟨q1, q2, q3, q4, q5, q6, q7, q8, q9, q10, q11, q12, q13, q14, q15, q16, q17, q18, q19, q20⟩ := hd.1 h
        omega
      have HK := Lib.hid hok
      clear hd hok hm
      go_enter Tryz.func34, Tryz.ntmps34
      go_wp2_with fail
      go_ret
      exact HE.out _ _ (.inr ⟨HK.out, rfl⟩) ((Below.refl _ _).alloc (Nat.le_refl _) _)
    rcases (by omega : prio < 0 ∨ (0 ≤ prio ∧ 7 < prio) ∨ (0 ≤ prio ∧ prio ≤ 7)) with g3 | ⟨g3, g3'⟩ | ⟨g3, g3'⟩
    · skip
      have hok : ¬ ok := fun h => by
        obtain ⟨q1, q2, q3, q4, q5, q6, q7, q8, q9, q10, q11, q12, q13, q14, q15, q16, q17, q18, q19, q20⟩ := hd.1 h
        omega
      have HK := Lib.hid hok
      clear hd hok hm
      go_enter Tryz.func34, Tryz.ntmps34
      go_wp2_with fail
      go_ret
      exact HE.out _ _ (.inr ⟨HK.out, rfl⟩) ((Below.refl _ _).alloc (Nat.le_refl _) _)
    · skip
      have hok : ¬ ok := fun h => by
        obtain ⟨q1, q2, q3, q4, q5, q6, q7, q8, q9, q10, q11, q12, q13, q14, q15, q16, q17, q18, q19, q20⟩ := hd.1 h
        omega
      have HK := Lib.hid hok
      clear hd hok hm
      go_enter Tryz.func34, Tryz.ntmps34
      go_wp2_with fail
      go_ret
      exact HE.out _ _ (.inr ⟨HK.out, rfl⟩) ((Below.refl _ _).alloc (Nat.le_refl _) _)
    rcases (by omega : 1152921504606846976 < msg ∨ msg ≤ 1152921504606846976) with g4 | g4
    · skip
      have hok : ¬ ok := fun h => by
        obtain ⟨q1, q2, q3, q4, q5, q6, q7, q8, q9, q10, q11, q12, q13, q14, q15, q16, q17, q18, q19, q20⟩ := hd.1 h
        omega
      have HK := Lib.hid hok
      clear hd hok hm
      go_enter Tryz.func34, Tryz.ntmps34
      go_wp2_with fail
      go_ret
      exact HE.out _ _ (.inr ⟨HK.out, rfl⟩) ((Below.refl _ _).alloc (Nat.le_refl _) _)
    rcases (by omega : off < 0 ∨ (0 ≤ off ∧ 1073741824 < off) ∨ (0 ≤ off ∧ off ≤ 1073741824)) with g5 | ⟨g5, g5'⟩ | ⟨g5, g5'⟩
    · skip
      have hok : ¬ ok := fun h => by
        obtain ⟨q1, q2, q3, q4, q5, q6, q7, q8, q9, q10, q11, q12, q13, q14, q15, q16, q17, q18, q19, q20⟩ := hd.1 h
        omega
      have HK := Lib.hid hok
      clear hd hok hm
      go_enter Tryz.func34, Tryz.ntmps34
      go_wp2_with fail
      go_ret
      exact HE.out _ _ (.inr ⟨HK.out, rfl⟩) ((Below.refl _ _).alloc (Nat.le_refl _) _)
    · skip
      have hok : ¬ ok := fun h => by
        obtain ⟨q1, q2, q3, q4, q5, q6, q7, q8, q9, q10, q11, q12, q13, q14, q15, q16, q17, q18, q19, q20⟩ := hd.1 h
        omega
      have HK := Lib.hid hok
      clear hd hok hm
      go_enter Tryz.func34, Tryz.ntmps34
      go_wp2_with fail
      go_ret
      exact HE.out _ _ (.inr ⟨HK.out, rfl⟩) ((Below.refl _ _).alloc (Nat.le_refl _) _)
    rcases (by omega : total < 0 ∨ (0 ≤ total ∧ 1073741824 < total) ∨ (0 ≤ total ∧ total ≤ 1073741824)) with g6 | ⟨g6, g6'⟩ | ⟨g6, g6'⟩
    · skip
      have hok : ¬ ok := fun h => by
        obtain ⟨q1, q2, q3, q4, q5, q6, q7, q8, q9, q10, q11, q12, q13, q14, q15, q16, q17, q18, q19, q20⟩ := hd.1 h
        omega
      have HK := Lib.hid hok
      clear hd hok hm
      go_enter Tryz.func34, Tryz.ntmps34
      go_wp2_with fail
      go_ret
      exact HE.out _ _ (.inr ⟨HK.out, rfl⟩) ((Below.refl _ _).alloc (Nat.le_refl _) _)
    · skip
      have hok : ¬ ok := fun h => by
        obtain ⟨q1, q2, q3, q4, q5, q6, q7, q8, q9, q10, q11, q12, q13, q14, q15, q16, q17, q18, q19, q20⟩ := hd.1 h
        omega
      have HK := Lib.hid hok
      clear hd hok hm
      go_enter Tryz.func34, Tryz.ntmps34
      go_wp2_with fail
      go_ret
      exact HE.out _ _ (.inr ⟨HK.out, rfl⟩) ((Below.refl _ _).alloc (Nat.le_refl _) _)
    rcases (by omega : len < 0 ∨ (0 ≤ len ∧ 1500 < len) ∨ (0 ≤ len ∧ len ≤ 1500)) with g7 | ⟨g7, g7'⟩ | ⟨g7, g7'⟩
    · skip
      have hok : ¬ ok := fun h => by
        obtain ⟨q1, q2, q3, q4, q5, q6, q7, q8, q9, q10, q11, q12, q13, q14, q15, q16, q17, q18, q19, q20⟩ := hd.1 h
        omega
      have HK := Lib.hid hok
      clear hd hok hm
      go_enter Tryz.func34, Tryz.ntmps34
      go_wp2_with fail
      go_ret
      exact HE.out _ _ (.inr ⟨HK.out, rfl⟩) ((Below.refl _ _).alloc (Nat.le_refl _) _)
    · skip
      have hok : ¬ ok := fun h => by
        obtain ⟨q1, q2, q3, q4, q5, q6, q7, q8, q9, q10, q11, q12, q13, q14, q15, q16, q17, q18, q19, q20⟩ := hd.1 h
        omega
      have HK := Lib.hid hok
      clear hd hok hm
      go_enter Tryz.func34, Tryz.ntmps34
      go_wp2_with fail
      go_ret
      exact HE.out _ _ (.inr ⟨HK.out, rfl⟩) ((Below.refl _ _).alloc (Nat.le_refl _) _)
    rcases (by omega : num < 0 ∨ (0 ≤ num ∧ 1073741824 < num) ∨ (0 ≤ num ∧ num ≤ 1073741824)) with g8 | ⟨g8, g8'⟩ | ⟨g8, g8'⟩
    · skip
      have hok : ¬ ok := fun h => by
        obtain ⟨q1, q2, q3, q4, q5, q6, q7, q8, q9, q10, q11, q12, q13, q14, q15, q16, q17, q18, q19, q20⟩ := hd.1 h
        omega
      have HK := Lib.hid hok
      clear hd hok hm
      go_enter Tryz.func34, Tryz.ntmps34
      go_wp2_with fail
      go_ret
      exact HE.out _ _ (.inr ⟨HK.out, rfl⟩) ((Below.refl _ _).alloc (Nat.le_refl _) _)
    · skip
      have hok : ¬ ok := fun h => by
        obtain ⟨q1, q2, q3, q4, q5, q6, q7, q8, q9, q10, q11, q12, q13, q14, q15, q16, q17, q18, q19, q20⟩ := hd.1 h
        omega
      have HK := Lib.hid hok
      clear hd hok hm
      go_enter Tryz.func34, Tryz.ntmps34
      go_wp2_with fail
      go_ret
      exact HE.out _ _ (.inr ⟨HK.out, rfl⟩) ((Below.refl _ _).alloc (Nat.le_refl _) _)
    rcases (by omega : total < off + len ∨ off + len ≤ total) with k2 | k2
    · skip
      have hok : ¬ ok := fun h => by
        obtain ⟨q1, q2, q3, q4, q5, q6, q7, q8, q9, q10, q11, q12, q13, q14, q15, q16, q17, q18, q19, q20⟩ := hd.1 h
        omega
      have HK := Lib.hid hok
      clear hd hok hm
      go_enter Tryz.func34, Tryz.ntmps34
      go_wp2_with fail
      go_ret
      exact HE.out _ _ (.inr ⟨HK.out, rfl⟩) ((Below.refl _ _).alloc (Nat.le_refl _) _)
    by_cases k3 : (n : Int) = len
    · skip
      have hok : ok := hd.2 ⟨by omega, by omega, by omega, by omega, by omega, by omega, by omega, by omega, by omega, by omega, by omega, by omega, by omega, by omega, by omega, by omega, by omega, fun _ => by omega, fun _ => by omega, fun _ => by omega⟩
      have HK := Lib.hid hok
      have kb : ((n : Int) == len) = true := beq_iff_eq.2 k3
      clear hd hok hm
      go_enter Tryz.func34, Tryz.ntmps34
      go_wp2_with fail
      go_ret
      exact HE.out _ _ (.inl ⟨HK.out, rfl⟩) ((Below.refl _ _).alloc (Nat.le_refl _) _)
    · skip
      have hok : ¬ ok := fun h => by
        obtain ⟨q1, q2, q3, q4, q5, q6, q7, q8, q9, q10, q11, q12, q13, q14, q15, q16, q17, q18, q19, q20⟩ := hd.1 h
        omega
      have HK := Lib.hid hok
      have kb : ((n : Int) == len) = false := beq_eq_false_iff_ne.2 k3
      clear hd hok hm
      go_enter Tryz.func34, Tryz.ntmps34
      go_wp2_with fail
      go_ret
      exact HE.out _ _ (.inr ⟨HK.out, rfl⟩) ((Below.refl _ _).alloc (Nat.le_refl _) _)
  · skip
    have kd : (kind == 1) = false := beq_eq_false_iff_ne.2 kk
    have kf : (kind != 1) = true := by simp [bne, kd]
    rcases (by omega : src < 0 ∨ (0 ≤ src ∧ 7 < src) ∨ (0 ≤ src ∧ src ≤ 7)) with g1 | ⟨g1, g1'⟩ | ⟨g1, g1'⟩
    · skip
      have hok : ¬ ok := fun h => by
        obtain ⟨q1, q2, q3, q4, q5, q6, q7, q8, q9, q10, q11, q12, q13, q14, q15, q16, q17, q18, q19, q20⟩ := hd.1 h
        omega
      have HK := Lib.hid hok
      clear hd hok hm
      go_enter Tryz.func34, Tryz.ntmps34
      go_wp2_with fail
      go_ret
      exact HE.out _ _ (.inr ⟨HK.out, rfl⟩) ((Below.refl _ _).alloc (Nat.le_refl _) _)
    · skip
      have hok : ¬ ok := fun h => by
        obtain ⟨q1, q2, q3, q4, q5, q6, q7, q8, q9, q10, q11, q12, q13, q14, q15, q16, q17, q18, q19, q20⟩ := hd.1 h
        omega
      have HK := Lib.hid hok
      clear hd hok hm
      go_enter Tryz.func34, Tryz.ntmps34
      go_wp2_with fail
      go_ret
      exact HE.out _ _ (.inr ⟨HK.out, rfl⟩) ((Below.refl _ _).alloc (Nat.le_refl _) _)
    rcases (by omega : dst < 0 ∨ (0 ≤ dst ∧ 7 < dst) ∨ (0 ≤ dst ∧ dst ≤ 7)) with g2 | ⟨g2, g2'⟩ | ⟨g2, g2'⟩
    · skip
      have hok : ¬ ok := fun h => by
        obtain ⟨q1, q2, q3, q4, q5, q6, q7, q8, q9, q10, q11, q12, q13, q14, q15, q16, q17, q18, q19, q20⟩ := hd.1 h
        omega
      have HK := Lib.hid hok
      clear hd hok hm
      go_enter Tryz.func34, Tryz.ntmps34
      go_wp2_with fail
      go_ret
      exact HE.out _ _ (.inr ⟨HK.out, rfl⟩) ((Below.refl _ _).alloc (Nat.le_refl _) _)
    · skip
      have hok : ¬ ok := fun h => by
        obtain ⟨q1, q2, q3, q4, q5, q6, q7, q8, q9, q10, q11, q12, q13, q14, q15, q16, q17, q18, q19, q20⟩ := hd.1 h
        omega
      have HK := Lib.hid hok
      clear hd hok hm
      go_enter Tryz.func34, Tryz.ntmps34
      go_wp2_with fail
      go_ret
      exact HE.out _ _ (.inr ⟨HK.out, rfl⟩) ((Below.refl _ _).alloc (Nat.le_refl _) _)
    rcases (by omega : prio < 0 ∨ (0 ≤ prio ∧ 7 < prio) ∨ (0 ≤ prio ∧ prio ≤ 7)) with g3 | ⟨g3, g3'⟩ | ⟨g3, g3'⟩
    · skip
      have hok : ¬ ok := fun h => by
        obtain ⟨q1, q2, q3, q4, q5, q6, q7, q8, q9, q10, q11, q12, q13, q14, q15, q16, q17, q18, q19, q20⟩ := hd.1 h
        omega
      have HK := Lib.hid hok
      clear hd hok hm
      go_enter Tryz.func34, Tryz.ntmps34
      go_wp2_with fail
      go_ret
      exact HE.out _ _ (.inr ⟨HK.out, rfl⟩) ((Below.refl _ _).alloc (Nat.le_refl _) _)
    · skip
      have hok : ¬ ok := fun h => by
        obtain ⟨q1, q2, q3, q4, q5, q6, q7, q8, q9, q10, q11, q12, q13, q14, q15, q16, q17, q18, q19, q20⟩ := hd.1 h
        omega
      have HK := Lib.hid hok
      clear hd hok hm
      go_enter Tryz.func34, Tryz.ntmps34
      go_wp2_with fail
      go_ret
      exact HE.out _ _ (.inr ⟨HK.out, rfl⟩) ((Below.refl _ _).alloc (Nat.le_refl _) _)
    rcases (by omega : 1152921504606846976 < msg ∨ msg ≤ 1152921504606846976) with g4 | g4
    · skip
      have hok : ¬ ok := fun h => by
        obtain ⟨q1, q2, q3, q4, q5, q6, q7, q8, q9, q10, q11, q12, q13, q14, q15, q16, q17, q18, q19, q20⟩ := hd.1 h
        omega
      have HK := Lib.hid hok
      clear hd hok hm
      go_enter Tryz.func34, Tryz.ntmps34
      go_wp2_with fail
      go_ret
      exact HE.out _ _ (.inr ⟨HK.out, rfl⟩) ((Below.refl _ _).alloc (Nat.le_refl _) _)
    rcases (by omega : off < 0 ∨ (0 ≤ off ∧ 1073741824 < off) ∨ (0 ≤ off ∧ off ≤ 1073741824)) with g5 | ⟨g5, g5'⟩ | ⟨g5, g5'⟩
    · skip
      have hok : ¬ ok := fun h => by
        obtain ⟨q1, q2, q3, q4, q5, q6, q7, q8, q9, q10, q11, q12, q13, q14, q15, q16, q17, q18, q19, q20⟩ := hd.1 h
        omega
      have HK := Lib.hid hok
      clear hd hok hm
      go_enter Tryz.func34, Tryz.ntmps34
      go_wp2_with fail
      go_ret
      exact HE.out _ _ (.inr ⟨HK.out, rfl⟩) ((Below.refl _ _).alloc (Nat.le_refl _) _)
    · skip
      have hok : ¬ ok := fun h => by
        obtain ⟨q1, q2, q3, q4, q5, q6, q7, q8, q9, q10, q11, q12, q13, q14, q15, q16, q17, q18, q19, q20⟩ := hd.1 h
        omega
      have HK := Lib.hid hok
      clear hd hok hm
      go_enter Tryz.func34, Tryz.ntmps34
      go_wp2_with fail
      go_ret
      exact HE.out _ _ (.inr ⟨HK.out, rfl⟩) ((Below.refl _ _).alloc (Nat.le_refl _) _)
    rcases (by omega : total < 0 ∨ (0 ≤ total ∧ 1073741824 < total) ∨ (0 ≤ total ∧ total ≤ 1073741824)) with g6 | ⟨g6, g6'⟩ | ⟨g6, g6'⟩
    · skip
      have hok : ¬ ok := fun h => by
        obtain ⟨q1, q2, q3, q4, q5, q6, q7, q8, q9, q10, q11, q12, q13, q14, q15, q16, q17, q18, q19, q20⟩ := hd.1 h
        omega
      have HK := Lib.hid hok
      clear hd hok hm
      go_enter Tryz.func34, Tryz.ntmps34
      go_wp2_with fail
      go_ret
      exact HE.out _ _ (.inr ⟨HK.out, rfl⟩) ((Below.refl _ _).alloc (Nat.le_refl _) _)
    · skip
      have hok : ¬ ok := fun h => by
        obtain ⟨q1, q2, q3, q4, q5, q6, q7, q8, q9, q10, q11, q12, q13, q14, q15, q16, q17, q18, q19, q20⟩ := hd.1 h
        omega
      have HK := Lib.hid hok
      clear hd hok hm
      go_enter Tryz.func34, Tryz.ntmps34
      go_wp2_with fail
      go_ret
      exact HE.out _ _ (.inr ⟨HK.out, rfl⟩) ((Below.refl _ _).alloc (Nat.le_refl _) _)
    rcases (by omega : len < 0 ∨ (0 ≤ len ∧ 1500 < len) ∨ (0 ≤ len ∧ len ≤ 1500)) with g7 | ⟨g7, g7'⟩ | ⟨g7, g7'⟩
    · skip
      have hok : ¬ ok := fun h => by
        obtain ⟨q1, q2, q3, q4, q5, q6, q7, q8, q9, q10, q11, q12, q13, q14, q15, q16, q17, q18, q19, q20⟩ := hd.1 h
        omega
      have HK := Lib.hid hok
      clear hd hok hm
      go_enter Tryz.func34, Tryz.ntmps34
      go_wp2_with fail
      go_ret
      exact HE.out _ _ (.inr ⟨HK.out, rfl⟩) ((Below.refl _ _).alloc (Nat.le_refl _) _)
    · skip
      have hok : ¬ ok := fun h => by
        obtain ⟨q1, q2, q3, q4, q5, q6, q7, q8, q9, q10, q11, q12, q13, q14, q15, q16, q17, q18, q19, q20⟩ := hd.1 h
        omega
      have HK := Lib.hid hok
      clear hd hok hm
      go_enter Tryz.func34, Tryz.ntmps34
      go_wp2_with fail
      go_ret
      exact HE.out _ _ (.inr ⟨HK.out, rfl⟩) ((Below.refl _ _).alloc (Nat.le_refl _) _)
    rcases (by omega : num < 0 ∨ (0 ≤ num ∧ 1073741824 < num) ∨ (0 ≤ num ∧ num ≤ 1073741824)) with g8 | ⟨g8, g8'⟩ | ⟨g8, g8'⟩
    · skip
      have hok : ¬ ok := fun h => by
        obtain ⟨q1, q2, q3, q4, q5, q6, q7, q8, q9, q10, q11, q12, q13, q14, q15, q16, q17, q18, q19, q20⟩ := hd.1 h
        omega
      have HK := Lib.hid hok
      clear hd hok hm
      go_enter Tryz.func34, Tryz.ntmps34
      go_wp2_with fail
      go_ret
      exact HE.out _ _ (.inr ⟨HK.out, rfl⟩) ((Below.refl _ _).alloc (Nat.le_refl _) _)
    · skip
      have hok : ¬ ok := fun h => by
        obtain ⟨q1, q2, q3, q4, q5, q6, q7, q8, q9, q10, q11, q12, q13, q14, q15, q16, q17, q18, q19, q20⟩ := hd.1 h
        omega
      have HK := Lib.hid hok
      clear hd hok hm
      go_enter Tryz.func34, Tryz.ntmps34
      go_wp2_with fail
      go_ret
      exact HE.out _ _ (.inr ⟨HK.out, rfl⟩) ((Below.refl _ _).alloc (Nat.le_refl _) _)
    by_cases k7 : kind = 7
    · skip
      subst k7
      rcases (by omega : total < off + len ∨ off + len ≤ total) with k2 | k2
      · skip
        have hok : ¬ ok := fun h => by
          obtain ⟨q1, q2, q3, q4, q5, q6, q7, q8, q9, q10, q11, q12, q13, q14, q15, q16, q17, q18, q19, q20⟩ := hd.1 h
          omega
        have HK := Lib.hid hok
        clear hd hok hm
        go_enter Tryz.func34, Tryz.ntmps34
        go_wp2_with fail
        go_ret
        exact HE.out _ _ (.inr ⟨HK.out, rfl⟩) ((Below.refl _ _).alloc (Nat.le_refl _) _)
      by_cases k3 : (n : Int) = 0
      · skip
        have hok : ok := hd.2 ⟨by omega, by omega, by omega, by omega, by omega, by omega, by omega, by omega, by omega, by omega, by omega, by omega, by omega, by omega, by omega, by omega, by omega, fun _ => by omega, fun _ => by omega, fun _ => by omega⟩
        have HK := Lib.hid hok
        have kb : ((n : Int) == 0) = true := beq_iff_eq.2 k3
        clear hd hok hm
        go_enter Tryz.func34, Tryz.ntmps34
        go_wp2_with fail
        go_ret
        exact HE.out _ _ (.inl ⟨HK.out, rfl⟩) ((Below.refl _ _).alloc (Nat.le_refl _) _)
      · skip
        have hok : ¬ ok := fun h => by
          obtain ⟨q1, q2, q3, q4, q5, q6, q7, q8, q9, q10, q11, q12, q13, q14, q15, q16, q17, q18, q19, q20⟩ := hd.1 h
          omega
        have HK := Lib.hid hok
        have kb : ((n : Int) == 0) = false := beq_eq_false_iff_ne.2 k3
        have kc : (0 : Int) < n := by omega
        clear hd hok hm
        go_enter Tryz.func34, Tryz.ntmps34
        go_wp2_with fail
        go_ret
        exact HE.out _ _ (.inr ⟨HK.out, rfl⟩) ((Below.refl _ _).alloc (Nat.le_refl _) _)
    · skip
      have ke : (kind == 7) = false := beq_eq_false_iff_ne.2 k7
      have kg : (kind != 7) = true := by simp [bne, ke]
      by_cases k3 : (n : Int) = 0
      · skip
        have hok : ok := hd.2 ⟨by omega, by omega, by omega, by omega, by omega, by omega, by omega, by omega, by omega, by omega, by omega, by omega, by omega, by omega, by omega, by omega, by omega, fun _ => by omega, fun _ => by omega, fun _ => by omega⟩
        have HK := Lib.hid hok
        have kb : ((n : Int) == 0) = true := beq_iff_eq.2 k3
        clear hd hok hm
        go_enter Tryz.func34, Tryz.ntmps34
        go_wp2_with fail
        go_ret
        exact HE.out _ _ (.inl ⟨HK.out, rfl⟩) ((Below.refl _ _).alloc (Nat.le_refl _) _)
      · skip
        have hok : ¬ ok := fun h => by
          obtain ⟨q1, q2, q3, q4, q5, q6, q7, q8, q9, q10, q11, q12, q13, q14, q15, q16, q17, q18, q19, q20⟩ := hd.1 h
          omega
        have HK := Lib.hid hok
        have kb : ((n : Int) == 0) = false := beq_eq_false_iff_ne.2 k3
        have kc : (0 : Int) < n := by omega
        clear hd hok hm
        go_enter Tryz.func34, Tryz.ntmps34
        go_wp2_with fail
        go_ret
        exact HE.out _ _ (.inr ⟨HK.out, rfl⟩) ((Below.refl _ _).alloc (Nat.le_refl _) _)
end Go.Proofs.YtajhndakkaniaaaGreatDoor
