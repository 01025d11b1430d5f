/- FabricArrives, the plain law: frames of one line go their ways, none lost, in order. No program in sight. -/
import Derived.Test.YtoihhidoafgoaaaMJ
namespace Go.Proofs.Ytoihhidoafgoaaa
open Go.RowKit

def srcA (H M i : Nat) : Nat := (i + M) % H
def dstA (H M i : Nat) : Nat := (srcA H M i + 1 + i * M % (H - 1)) % H
def fA (H M i : Nat) : It := ⟨1, srcA H M i, dstA H M i, 0, i, 0, 3, 3, 0, none, 3, 0, 0, [UInt8.ofNat i, 1, 2]⟩
theorem fA_sz (H M i : Nat) : (fA H M i).sz = 29 := rfl
theorem srcA_lt {H M i : Nat} (hH : 2 ≤ H) : srcA H M i < H := Nat.mod_lt _ (by omega)
theorem dstA_lt {H M i : Nat} (hH : 2 ≤ H) : dstA H M i < H := Nat.mod_lt _ (by omega)
theorem dstA_ne {H M i : Nat} (hH : 2 ≤ H) : dstA H M i ≠ srcA H M i := by
  have h1 := srcA_lt (M := M) (i := i) hH
  have h2 := Nat.mod_lt (i * M) (show H - 1 > 0 by omega)
  unfold dstA
  generalize srcA H M i = s at *
  generalize i * M % (H - 1) = t at *
  rcases Nat.lt_or_ge (s + 1 + t) H with h | h
  · rw [Nat.mod_eq_of_lt h]; omega
  · rw [Nat.mod_eq_sub_mod h, Nat.mod_eq_of_lt (by omega)]; omega
def isAB (a b : Nat) (x : It) : Bool := x.src == (a : Int) && x.dst == (b : Int)
def fl (a b : Nat) (l : List It) : List It := l.filter (isAB a b)
theorem fl_app (a b : Nat) (l m : List It) : fl a b (l ++ m) = fl a b l ++ fl a b m := List.filter_append ..
theorem fl_nil (a b : Nat) : fl a b [] = [] := rfl
theorem fl_yes {a b : Nat} {x : It} (h : isAB a b x = true) (l : List It) : fl a b (x :: l) = x :: fl a b l := List.filter_cons_of_pos h
theorem fl_no {a b : Nat} {x : It} (h : isAB a b x = false) (l : List It) : fl a b (x :: l) = fl a b l := List.filter_cons_of_neg (by rw [h]; decide)
def lu (H S a : Nat) : Nat := 2 * H + a / 2 * S
def sp (H S b : Nat) : Nat := 2 * H + lvs H * S + b / 2
def ch (H S a b : Nat) (Q A : Nat → List It) : List It := fl a b (A b) ++ fl a b (Q (H + b)) ++ (if a / 2 = b / 2 then [] else fl a b (Q (sp H S b)) ++ fl a b (Q (lu H S a))) ++ fl a b (Q a)
def sent (H M a b c : Nat) : List It := fl a b ((List.range c).map (fA H M))
def Onr (H S n a b : Nat) : Prop := n = a ∨ n = H + b ∨ (a / 2 ≠ b / 2 ∧ (n = lu H S a ∨ n = sp H S b))
structure Ar (H S M c : Nat) (Q A : Nat → List It) : Prop where
  chain : ∀ a b, a < H → b < H → ch H S a b Q A = sent H M a b c
  from' : ∀ n, n < nP H S → ∀ x, x ∈ Q n → ∃ i, i < c ∧ x = fA H M i ∧ Onr H S n (srcA H M i) (dstA H M i)
  arrf : ∀ b, b < H → ∀ x, x ∈ A b → ∃ i, i < c ∧ x = fA H M i ∧ dstA H M i = b
theorem isAB_fA (H M i a b : Nat) : isAB a b (fA H M i) = (decide (srcA H M i = a) && decide (dstA H M i = b)) := by
  unfold isAB fA
  simp only
  congr 1
  · by_cases h : srcA H M i = a
    · rw [h]; simp
    · rw [decide_eq_false h]; exact beq_eq_false_iff_ne.2 (by omega)
  · by_cases h : dstA H M i = b
    · rw [h]; simp
    · rw [decide_eq_false h]; exact beq_eq_false_iff_ne.2 (by omega)
theorem ports_apart {H S a b : Nat} (hs : Hs H S) (ha : a < H) (hb : b < H) : lu H S a < nP H S ∧ sp H S b < nP H S ∧ 2 * H ≤ lu H S a ∧ lu H S a < 2 * H + lvs H * S ∧ 2 * H + lvs H * S ≤ sp H S b := by
  have h1 := hs.h
  have h2 := hs.s
  have h3 := nP_ls H S
  have h4 := hs.ls
  have e3 : a / 2 * S + (S - 1) < lvs H * S := by
    have : (a / 2 + 1) * S ≤ lvs H * S := Nat.mul_le_mul_right _ (by unfold lvs; omega)
    rw [Nat.succ_mul] at this
    omega
  have e4 : b / 2 < lvs H := by unfold lvs; omega
  have e5 : lvs H ≤ lvs H * S := Nat.le_mul_of_pos_right _ (by omega)
  unfold lu sp
  omega
/-- where each goes -/
theorem nxt_fA {H S M i n : Nat} (hs : Hs H S) (hn : n < nP H S) (hon : Onr H S n (srcA H M i) (dstA H M i)) :
    (n = H + dstA H M i ∧ nxt H S n (fA H M i).dst.toNat (fA H M i).path = (-1, true)) ∨
    (n ≠ H + dstA H M i ∧ ∃ m : Nat, nxt H S n (fA H M i).dst.toNat (fA H M i).path = ((m : Int), false) ∧ Onr H S m (srcA H M i) (dstA H M i) ∧ m < nP H S ∧
      ((n = srcA H M i ∧ srcA H M i / 2 = dstA H M i / 2 ∧ m = H + dstA H M i) ∨ (n = srcA H M i ∧ srcA H M i / 2 ≠ dstA H M i / 2 ∧ m = lu H S (srcA H M i)) ∨ (srcA H M i / 2 ≠ dstA H M i / 2 ∧ n = lu H S (srcA H M i) ∧ m = sp H S (dstA H M i)) ∨ (srcA H M i / 2 ≠ dstA H M i / 2 ∧ n = sp H S (dstA H M i) ∧ m = H + dstA H M i))) := by
  have h1 := hs.h
  have h2 := hs.s
  have hsr := srcA_lt (M := M) (i := i) h1.1
  have hds := dstA_lt (M := M) (i := i) h1.1
  obtain ⟨p1, p2, p3, p4, p5⟩ := ports_apart hs hsr hds
  have hd : (fA H M i).dst.toNat = dstA H M i := by unfold fA; simp
  have hp : (fA H M i).path = 0 := rfl
  rw [hd, hp]
  have hnp := nP_ls H S
  have hls := hs.ls
  generalize srcA H M i = a at *
  generalize dstA H M i = b at *
  have e5 : lvs H ≤ lvs H * S := Nat.le_mul_of_pos_right _ (by omega)
  rcases hon with rfl | rfl | ⟨hne, rfl | rfl⟩
  · refine .inr ⟨by omega, ?_⟩
    by_cases he : n / 2 = b / 2
    · refine ⟨H + b, ?_, .inr (.inl rfl), by omega, .inl ⟨rfl, he, rfl⟩⟩
      unfold nxt
      rw [if_pos hsr, if_pos he.symm]
    · refine ⟨lu H S n, ?_, .inr (.inr ⟨he, .inl rfl⟩), p1, .inr (.inl ⟨rfl, he, rfl⟩)⟩
      unfold nxt
      rw [if_pos hsr, if_neg (fun h => he h.symm), Int.zero_emod, Int.add_zero]
      rfl
  · refine .inl ⟨rfl, ?_⟩
    unfold nxt
    rw [if_neg (by omega), if_pos (by omega)]
  · refine .inr ⟨by omega, sp H S b, ?_, .inr (.inr ⟨hne, .inr rfl⟩), p2, .inr (.inr (.inl ⟨hne, rfl, rfl⟩))⟩
    unfold nxt
    rw [if_neg (by omega), if_neg (by omega), if_pos p4]
    have e6 : lu H S a - 2 * H = a / 2 * S := by unfold lu; omega
    rw [e6, Nat.mul_mod_left, Nat.zero_mul, Nat.add_zero]
    rfl
  · refine .inr ⟨by omega, H + b, ?_, .inr (.inl rfl), by omega, .inr (.inr (.inr ⟨hne, rfl, rfl⟩))⟩
    unfold nxt
    have e6 : sp H S b - 2 * H - lvs H * S = b / 2 := by unfold sp; omega
    rw [if_neg (by omega), if_neg (by omega), if_neg (by omega), e6, Nat.mod_eq_of_lt (by unfold lvs; omega), if_pos rfl]
section
variable {H S M c n m : Nat} {Q A : Nat → List It}
theorem fl_upd_no {a b : Nat} {F : Nat → List It} {k : Nat} {l : List It} (h : fl a b l = fl a b (F k)) (j : Nat) : fl a b (upd F k l j) = fl a b (F j) := by
  unfold upd
  split
  · rename_i e; rw [e, h]
  · rfl
theorem Ar.move (h : Ar H S M c Q A) (hs : Hs H S) {x : It} {q : List It} (hq : Q n = x :: q) (hn : n < nP H S) (hx : nxt H S n x.dst.toNat x.path = ((m : Int), false)) : Ar H S M c (upd (upd Q n q) m (upd Q n q m ++ [x])) A := by
  obtain ⟨i, hi, rfl, hon⟩ := h.from' n hn x (by rw [hq]; exact List.mem_cons_self)
  have h1 := hs.h
  have hsr := srcA_lt (M := M) (i := i) h1.1
  have hds := dstA_lt (M := M) (i := i) h1.1
  rcases nxt_fA hs hn hon with ⟨_, h2⟩ | ⟨hnd, m', h2, hon', hm', hcase⟩
  · rw [h2] at hx; cases (Prod.mk.inj hx).2
  obtain rfl : m' = m := by
    rw [h2] at hx
    have := (Prod.mk.inj hx).1
    omega
  have hmn : m' ≠ n := by
    obtain ⟨p1, p2, p3, p4, p5⟩ := ports_apart hs hsr hds
    have := dstA_ne (M := M) (i := i) h1.1
    rcases hcase with ⟨e1, _, e2⟩ | ⟨e1, _, e2⟩ | ⟨_, e1, e2⟩ | ⟨_, e1, e2⟩ <;> omega
  have hQm : upd Q n q m' = Q m' := upd_other _ _ hmn
  rw [hQm]
  refine ⟨fun a b ha hb => ?_, fun k hk y hy => ?_, h.arrf⟩
  · rw [← h.chain a b ha hb]
    by_cases hab : srcA H M i = a ∧ dstA H M i = b
    · obtain ⟨rfl, rfl⟩ := hab
      have hy : isAB (srcA H M i) (dstA H M i) (fA H M i) = true := by rw [isAB_fA]; simp
      have hQn : fl (srcA H M i) (dstA H M i) (Q n) = fA H M i :: fl (srcA H M i) (dstA H M i) q := by rw [hq, fl_yes hy]
      have hU : ∀ j, fl (srcA H M i) (dstA H M i) (upd (upd Q n q) m' (Q m' ++ [fA H M i]) j) = if j = m' then fl (srcA H M i) (dstA H M i) (Q m') ++ [fA H M i] else if j = n then fl (srcA H M i) (dstA H M i) q else fl (srcA H M i) (dstA H M i) (Q j) := fun j => by
        unfold upd
        split
        · rw [fl_app, fl_yes hy, fl_nil]
        · split <;> rfl
      obtain ⟨p1, p2, p3, p4, p5⟩ := ports_apart hs hsr hds
      have hne := dstA_ne (M := M) (i := i) h1.1
      unfold ch
      rw [hU, hU, hU, hU]
      generalize srcA H M i = a at *
      generalize dstA H M i = b at *
      rcases hcase with ⟨e1, e3, e2⟩ | ⟨e1, e3, e2⟩ | ⟨e3, e1, e2⟩ | ⟨e3, e1, e2⟩
      · rw [if_pos e2.symm, if_pos e3, if_pos e3, if_neg (show ¬ a = m' by omega), if_pos e1.symm, ← e2]
        rw [e1] at hQn
        rw [hQn]
        simp
      · rw [if_neg (show ¬ H + b = m' by omega), if_neg (show ¬ H + b = n by omega), if_neg e3, if_neg e3, if_neg (show ¬ sp H S b = m' by omega), if_neg (show ¬ sp H S b = n by omega), if_pos e2.symm, if_neg (show ¬ a = m' by omega), if_pos e1.symm, ← e2]
        rw [e1] at hQn
        rw [hQn]
        simp
      · rw [if_neg (show ¬ H + b = m' by omega), if_neg (show ¬ H + b = n by omega), if_neg e3, if_neg e3, if_pos e2.symm, if_neg (show ¬ lu H S a = m' by omega), if_pos e1.symm, if_neg (show ¬ a = m' by omega), if_neg (show ¬ a = n by omega), ← e2, ← e1, hQn]
        simp
      · rw [if_pos e2.symm, if_neg e3, if_neg e3, if_neg (show ¬ sp H S b = m' by omega), if_pos e1.symm, if_neg (show ¬ lu H S a = m' by omega), if_neg (show ¬ lu H S a = n by omega), if_neg (show ¬ a = m' by omega), if_neg (show ¬ a = n by omega), ← e2, ← e1, hQn]
        simp
    · have hy : isAB a b (fA H M i) = false := by
        rw [isAB_fA]
        by_cases e1 : srcA H M i = a
        · rw [decide_eq_false (fun e2 => hab ⟨e1, e2⟩)]; simp
        · rw [decide_eq_false e1]; simp
      have hU : ∀ j, fl a b (upd (upd Q n q) m' (Q m' ++ [fA H M i]) j) = fl a b (Q j) := fun j => by
        rw [fl_upd_no, fl_upd_no]
        · rw [hq, fl_no hy]
        · rw [hQm, fl_app, fl_no hy, fl_nil, List.append_nil]
      unfold ch
      rw [hU, hU, hU, hU]
  · by_cases e : k = m'
    · subst e
      rw [upd_same] at hy
      rcases List.mem_append.1 hy with hy | hy
      · exact h.from' k hk y hy
      · rw [List.mem_singleton.1 hy]; exact ⟨i, hi, rfl, hon'⟩
    · rw [upd_other _ _ e] at hy
      by_cases e2 : k = n
      · subst e2
        rw [upd_same] at hy
        exact h.from' k hk y (by rw [hq]; exact List.mem_cons_of_mem _ hy)
      · rw [upd_other _ _ e2] at hy
        exact h.from' k hk y hy
theorem Ar.arr (h : Ar H S M c Q A) (hs : Hs H S) {x : It} {q : List It} (hq : Q n = x :: q) (hn : n < nP H S) (h1n : H ≤ n) (h2n : n < 2 * H) : Ar H S M c (upd Q n q) (upd A (n - H) (A (n - H) ++ [x])) := by
  obtain ⟨i, hi, rfl, hon⟩ := h.from' n hn x (by rw [hq]; exact List.mem_cons_self)
  have h1 := hs.h
  have hsr := srcA_lt (M := M) (i := i) h1.1
  have hds := dstA_lt (M := M) (i := i) h1.1
  obtain ⟨p1, p2, p3, p4, p5⟩ := ports_apart hs hsr hds
  have hnd : n = H + dstA H M i := by
    rcases hon with e | e | ⟨_, e | e⟩ <;> omega
  have hnb : n - H = dstA H M i := by omega
  rw [hnb]
  refine ⟨fun a b ha hb => ?_, fun k hk y hy => ?_, fun b hb y hy => ?_⟩
  · rw [← h.chain a b ha hb]
    by_cases hab : srcA H M i = a ∧ dstA H M i = b
    · obtain ⟨rfl, rfl⟩ := hab
      have hy : isAB (srcA H M i) (dstA H M i) (fA H M i) = true := by rw [isAB_fA]; simp
      have hQn : fl (srcA H M i) (dstA H M i) (Q n) = fA H M i :: fl (srcA H M i) (dstA H M i) q := by rw [hq, fl_yes hy]
      have hU : ∀ j, fl (srcA H M i) (dstA H M i) (upd Q n q j) = if j = n then fl (srcA H M i) (dstA H M i) q else fl (srcA H M i) (dstA H M i) (Q j) := fun j => by
        unfold upd
        split <;> rfl
      unfold ch
      rw [hU, hU, hU, hU, upd_same, fl_app, fl_yes hy, fl_nil, if_pos hnd.symm, if_neg (show ¬ sp H S (dstA H M i) = n by omega), if_neg (show ¬ lu H S (srcA H M i) = n by omega), if_neg (show ¬ srcA H M i = n by omega), ← hnd, hQn]
      simp
    · have hy : isAB a b (fA H M i) = false := by
        rw [isAB_fA]
        by_cases e1 : srcA H M i = a
        · rw [decide_eq_false (fun e2 => hab ⟨e1, e2⟩)]; simp
        · rw [decide_eq_false e1]; simp
      have hU : ∀ j, fl a b (upd Q n q j) = fl a b (Q j) := fun j => by
        rw [fl_upd_no]
        rw [hq, fl_no hy]
      have hV : ∀ j, fl a b (upd A (dstA H M i) (A (dstA H M i) ++ [fA H M i]) j) = fl a b (A j) := fun j => by
        rw [fl_upd_no]
        rw [fl_app, fl_no hy, fl_nil, List.append_nil]
      unfold ch
      rw [hU, hU, hU, hU, hV]
  · by_cases e2 : k = n
    · subst e2
      rw [upd_same] at hy
      exact h.from' k hk y (by rw [hq]; exact List.mem_cons_of_mem _ hy)
    · rw [upd_other _ _ e2] at hy
      exact h.from' k hk y hy
  · by_cases e : b = dstA H M i
    · subst e
      rw [upd_same] at hy
      rcases List.mem_append.1 hy with hy | hy
      · exact h.arrf _ hb y hy
      · rw [List.mem_singleton.1 hy]; exact ⟨i, hi, rfl, rfl⟩
    · rw [upd_other _ _ e] at hy
      exact h.arrf b hb y hy
theorem Ar.send (h : Ar H S M c Q A) (hs : Hs H S) (hA : ∀ b, b < H → A b = []) (hQ : ∀ n, H ≤ n → n < nP H S → Q n = []) : Ar H S M (c + 1) (upd Q (srcA H M c) (Q (srcA H M c) ++ [fA H M c])) A := by
  have h1 := hs.h
  have hsr := srcA_lt (M := M) (i := c) h1.1
  have hnp := nP_ls H S
  refine ⟨fun a b ha hb => ?_, fun k hk y hy => ?_, fun b hb y hy => ?_⟩
  · have hc := h.chain a b ha hb
    obtain ⟨p1, p2, p3, p4, p5⟩ := ports_apart hs ha hb
    unfold ch at hc ⊢
    rw [hA b hb, hQ (H + b) (by omega) (by omega), hQ (sp H S b) (by omega) p2, hQ (lu H S a) (by omega) p1] at hc
    rw [upd_other _ _ (show H + b ≠ srcA H M c by omega), upd_other _ _ (show sp H S b ≠ srcA H M c by omega), upd_other _ _ (show lu H S a ≠ srcA H M c by omega), hA b hb, hQ (H + b) (by omega) (by omega), hQ (sp H S b) (by omega) p2, hQ (lu H S a) (by omega) p1]
    have hsn : sent H M a b (c + 1) = sent H M a b c ++ fl a b [fA H M c] := by
      unfold sent
      rw [List.range_succ, List.map_append, fl_app]
      rfl
    rw [hsn, ← hc]
    by_cases e : a = srcA H M c
    · rw [e, upd_same, fl_app]
      simp [fl_nil]
    · rw [upd_other _ _ e]
      have : isAB a b (fA H M c) = false := by rw [isAB_fA, decide_eq_false (fun e2 => e e2.symm)]; simp
      rw [fl_no this, fl_nil]
      simp
  · by_cases e : k = srcA H M c
    · subst e
      rw [upd_same] at hy
      rcases List.mem_append.1 hy with hy | hy
      · obtain ⟨i, hi, h2⟩ := h.from' _ hk y hy
        exact ⟨i, by omega, h2⟩
      · rw [List.mem_singleton.1 hy]; exact ⟨c, by omega, rfl, .inl rfl⟩
    · rw [upd_other _ _ e] at hy
      obtain ⟨i, hi, h2⟩ := h.from' k hk y hy
      exact ⟨i, by omega, h2⟩
  · rw [hA b hb] at hy; cases hy
theorem Ar.new : Ar H S M 0 (fun _ => []) (fun _ => []) :=
  ⟨fun a b _ _ => by unfold ch sent; simp [fl_nil], fun n _ x hx => (by cases hx), fun b _ x hx => (by cases hx)⟩
end
end Go.Proofs.Ytoihhidoafgoaaa
/- FabricArrives, the plain law: all arrive. No program in sight. -/
namespace Go.Proofs.Ytoihhidoafgoaaa
open Go.RowKit

theorem sumN_at {g g' : Nat → Nat} {i : Nat} (h : ∀ k, k ≠ i → g' k = g k) : ∀ n, i < n → sumN g' n + g i = sumN g n + g' i
  | n + 1, hi => by
    rw [sumN, sumN]
    by_cases e : i = n
    · subst e
      have : sumN g' i = sumN g i := sumN_congr i fun k hk => h k (by omega)
      omega
    · have := sumN_at h n (by omega)
      have := h n (fun e2 => e e2.symm)
      omega
theorem sumN_add (g g' : Nat → Nat) : ∀ n, sumN (fun k => g k + g' k) n = sumN g n + sumN g' n
  | 0 => rfl
  | n + 1 => by rw [sumN, sumN, sumN, sumN_add g g' n]; omega
theorem sumN_delta (i : Nat) : ∀ n, sumN (fun k => if i = k then 1 else 0) n = if i < n then 1 else 0
  | 0 => rfl
  | n + 1 => by
    rw [sumN, sumN_delta i n]
    by_cases e : i = n
    · subst e; rw [if_neg (Nat.lt_irrefl _), if_pos rfl, if_pos (Nat.lt_succ_self _)]
    · rw [if_neg e]
      by_cases e2 : i < n
      · rw [if_pos e2, if_pos (by omega)]
      · rw [if_neg e2, if_neg (by omega)]
def wt (H S n : Nat) : Nat := if n < H then 4 else if n < 2 * H then 1 else if n < 2 * H + lvs H * S then 3 else 2
def pot (H S : Nat) (Q : Nat → List It) : Nat := sumN (fun n => wt H S n * (Q n).length) (nP H S)
theorem wt_pos (H S n : Nat) : 1 ≤ wt H S n := by unfold wt; split <;> (try split) <;> (try split) <;> omega
theorem pot_upd {H S n : Nat} {Q : Nat → List It} {l : List It} (hn : n < nP H S) : pot H S (upd Q n l) + wt H S n * (Q n).length = pot H S Q + wt H S n * l.length := by
  have := sumN_at (g := fun n => wt H S n * (Q n).length) (g' := fun k => wt H S k * (upd Q n l k).length) (i := n) (fun k hk => by simp only [upd_other Q l hk]) (nP H S) hn
  simp only [upd_same] at this
  exact this
theorem pot_zero {H S : Nat} {Q : Nat → List It} (h : pot H S Q = 0) {n : Nat} (hn : n < nP H S) : Q n = [] := by
  have h1 := pot_upd (Q := Q) (l := []) hn
  have h2 := wt_pos H S n
  rw [List.length_nil, Nat.mul_zero] at h1
  have h3 : wt H S n * (Q n).length = 0 := by omega
  rcases Nat.mul_eq_zero.1 h3 with h4 | h4
  · omega
  · exact List.length_eq_zero_iff.1 h4
theorem pot_none {H S : Nat} {Q : Nat → List It} (h : ∀ n, n < nP H S → Q n = []) : pot H S Q = 0 := sumN_zero _ _ fun i hi => by rw [h i hi, List.length_nil, Nat.mul_zero]
section
variable {H S M c n m : Nat} {Q A : Nat → List It}
theorem Ar.serve (h : Ar H S M c Q A) (hs : Hs H S) (hn : n < nP H S) {b : Bool} {Q' A' : Nat → List It} (hv : Sv H S Q A n b Q' A') : Ar H S M c Q' A' ∧ ((Q n = [] ∧ Q' = Q) ∨ pot H S Q' < pot H S Q) := by
  have h1 := hs.h
  cases hv with
  | none hq =>
    have e : upd Q n [] = Q := by funext k; unfold upd; split <;> simp_all
    rw [e]
    exact ⟨h, .inl ⟨hq, rfl⟩⟩
  | arr x q hq e1 e2 =>
    refine ⟨h.arr hs hq hn e1 e2, .inr ?_⟩
    have h2 := pot_upd (Q := Q) (l := q) hn
    rw [hq, List.length_cons, Nat.mul_add] at h2
    have := wt_pos H S n
    omega
  | move x q m hq hm hx =>
    refine ⟨h.move hs hq hn hx, .inr ?_⟩
    obtain ⟨i, hi, rfl, hon⟩ := h.from' n hn x (by rw [hq]; exact List.mem_cons_self)
    have hsr := srcA_lt (M := M) (i := i) h1.1
    have hds := dstA_lt (M := M) (i := i) h1.1
    obtain ⟨p1, p2, p3, p4, p5⟩ := ports_apart hs hsr hds
    rcases nxt_fA hs hn hon with ⟨_, h2⟩ | ⟨hnd, m', h2, hon', hm', hcase⟩
    · rw [h2] at hx; cases (Prod.mk.inj hx).2
    obtain rfl : m' = m := by
      rw [h2] at hx
      have := (Prod.mk.inj hx).1
      omega
    have h3 := pot_upd (Q := Q) (l := q) hn
    have h4 := pot_upd (Q := upd Q n q) (l := upd Q n q m' ++ [fA H M i]) hm'
    rw [hq, List.length_cons, Nat.mul_add] at h3
    rw [List.length_append, Nat.mul_add] at h4
    simp only [List.length_singleton, Nat.mul_one] at h3 h4
    have hw : wt H S m' < wt H S n := by
      unfold wt
      rcases hcase with ⟨e1, _, e2⟩ | ⟨e1, _, e2⟩ | ⟨_, e1, e2⟩ | ⟨_, e1, e2⟩
      · rw [if_neg (by omega), if_pos (by omega), if_pos (by omega)]; decide
      · rw [if_neg (by omega), if_neg (by omega), if_pos (by omega), if_pos (by omega)]; decide
      · rw [if_neg (by omega), if_neg (by omega), if_neg (by omega), if_neg (by omega), if_neg (by omega), if_pos (by omega)]; decide
      · rw [if_neg (by omega), if_pos (by omega), if_neg (by omega), if_neg (by omega), if_neg (by omega)]; decide
    omega
theorem pot_send (hs : Hs H S) (x : It) : pot H S (upd Q (srcA H M c) (Q (srcA H M c) ++ [x])) = pot H S Q + 4 := by
  have h1 := hs.h
  have hsr := srcA_lt (M := M) (i := c) h1.1
  have hnp := nP_ls H S
  have h2 := pot_upd (S := S) (Q := Q) (l := Q (srcA H M c) ++ [x]) (show srcA H M c < nP H S by omega)
  have h3 : wt H S (srcA H M c) = 4 := by unfold wt; rw [if_pos hsr]
  rw [h3, List.length_append, List.length_singleton] at h2
  omega
end
/-- how many go to a host -/
def cnt (H M b c : Nat) : Nat := ((List.range c).filter fun i => decide (dstA H M i = b)).length
theorem cnt_succ (H M b c : Nat) : cnt H M b (c + 1) = cnt H M b c + (if dstA H M c = b then 1 else 0) := by
  unfold cnt
  rw [List.range_succ, List.filter_append, List.length_append]
  by_cases h : dstA H M c = b
  · simp [h]
  · simp [h]
theorem cnt_le (H M b c : Nat) : cnt H M b c ≤ c := by
  unfold cnt
  exact Nat.le_trans (List.length_filter_le _ _) (by rw [List.length_range]; exact Nat.le_refl _)
theorem fl_parts {H M b : Nat} (hH : 2 ≤ H) : ∀ (l : List It), (∀ x, x ∈ l → ∃ i, x = fA H M i ∧ dstA H M i = b) → l.length = sumN (fun a => (fl a b l).length) H
  | [], _ => by rw [sumN_zero]; rfl; intro i _; rfl
  | x :: l, h => by
    obtain ⟨i, rfl, hd⟩ := h x List.mem_cons_self
    have h2 := fl_parts hH l fun y hy => h y (List.mem_cons_of_mem _ hy)
    have h3 : ∀ a, (fl a b (fA H M i :: l)).length = (fl a b l).length + (if srcA H M i = a then 1 else 0) := fun a => by
      have hab : isAB a b (fA H M i) = decide (srcA H M i = a) := by rw [isAB_fA, hd]; simp
      by_cases e : srcA H M i = a
      · rw [fl_yes (by rw [hab]; exact decide_eq_true e), if_pos e]; rfl
      · rw [fl_no (by rw [hab]; exact decide_eq_false e), if_neg e]; rfl
    have h4 : sumN (fun a => (fl a b (fA H M i :: l)).length) H = sumN (fun a => (fl a b l).length) H + 1 := by
      rw [show (fun a => (fl a b (fA H M i :: l)).length) = fun a => (fl a b l).length + (if srcA H M i = a then 1 else 0) from funext h3, sumN_add, sumN_delta, if_pos (srcA_lt hH)]
    rw [h4, List.length_cons, h2]
theorem pair_fl {R : It → It → Prop} {b : Nat} : ∀ (l : List It), (∀ x, x ∈ l → ∃ a : Nat, x.src = a ∧ x.dst = b) → (∀ a, (fl a b l).Pairwise R) → l.Pairwise fun x y => x.src = y.src → R x y
  | [], _, _ => List.Pairwise.nil
  | x :: l, hm, h => by
    obtain ⟨a, ha, hb⟩ := hm x List.mem_cons_self
    have hx : isAB a b x = true := by unfold isAB; rw [ha, hb]; simp
    have ih := pair_fl l (fun y hy => hm y (List.mem_cons_of_mem _ hy)) fun a' => by
      have h2 := h a'
      cases hxa : isAB a' b x with
      | true => rw [fl_yes hxa] at h2; exact (List.pairwise_cons.1 h2).2
      | false => rw [fl_no hxa] at h2; exact h2
    refine List.pairwise_cons.2 ⟨fun y hy hxy => ?_, ih⟩
    have h2 := h a
    rw [fl_yes hx] at h2
    refine (List.pairwise_cons.1 h2).1 y (List.mem_filter.2 ⟨hy, ?_⟩)
    obtain ⟨a', ha', hb'⟩ := hm y (List.mem_cons_of_mem _ hy)
    unfold isAB
    rw [← hxy, ha, hb']
    simp
structure Gd (H M c : Nat) (A : Nat → List It) : Prop where
  len : ∀ b, b < H → (A b).length = cnt H M b c
  mem : ∀ b, b < H → ∀ x, x ∈ A b → ∃ i, i < c ∧ x = fA H M i ∧ dstA H M i = b
  up : ∀ b, b < H → (A b).Pairwise fun x y => x.src = y.src → x.msg < y.msg
theorem range_up (H M : Nat) : ∀ c, ((List.range c).map (fA H M)).Pairwise fun x y => x.msg < y.msg := fun c => by
  refine List.pairwise_map.2 ?_
  refine List.Pairwise.imp ?_ (List.pairwise_lt_range (n := c))
  intro i j h
  show (i : Int) < (j : Int)
  omega
theorem Ar.done {H S M c : Nat} {Q A : Nat → List It} (h : Ar H S M c Q A) (hs : Hs H S) (h0 : pot H S Q = 0) : Gd H M c A := by
  have hH := hs.h.1
  have hnp := nP_ls H S
  have key : ∀ a b, a < H → b < H → fl a b (A b) = sent H M a b c := fun a b ha hb => by
    have h1 := h.chain a b ha hb
    obtain ⟨p1, p2, p3, p4, p5⟩ := ports_apart hs ha hb
    unfold ch at h1
    rw [pot_zero h0 (show H + b < nP H S by omega), pot_zero h0 p1, pot_zero h0 p2, pot_zero h0 (show a < nP H S by omega)] at h1
    rw [← h1]
    simp [fl_nil]
  refine ⟨fun b hb => ?_, h.arrf, fun b hb => ?_⟩
  · rw [fl_parts hH (A b) fun x hx => by obtain ⟨i, _, h2, h3⟩ := h.arrf b hb x hx; exact ⟨i, h2, h3⟩]
    have h2 : cnt H M b c = (((List.range c).filter fun i => decide (dstA H M i = b)).map (fA H M)).length := by unfold cnt; rw [List.length_map]
    rw [h2, fl_parts hH (((List.range c).filter fun i => decide (dstA H M i = b)).map (fA H M)) fun x hx => by
      obtain ⟨i, hi, rfl⟩ := List.mem_map.1 hx
      exact ⟨i, rfl, of_decide_eq_true (List.mem_filter.1 hi).2⟩]
    refine sumN_congr H fun a ha => ?_
    rw [key a b ha hb]
    congr 1
    unfold sent fl
    rw [List.filter_map, List.filter_map, List.filter_filter]
    congr 1
    refine List.filter_congr fun i _ => ?_
    show isAB a b (fA H M i) = (isAB a b (fA H M i) && decide (dstA H M i = b))
    rw [isAB_fA]
    cases decide (srcA H M i = a) <;> cases decide (dstA H M i = b) <;> rfl
  · refine pair_fl (b := b) (A b) (fun x hx => ?_) fun a => ?_
    · obtain ⟨i, _, rfl, h3⟩ := h.arrf b hb x hx
      exact ⟨srcA H M i, rfl, by show ((dstA H M i : Nat) : Int) = b; rw [h3]⟩
    · by_cases ha : a < H
      · rw [key a b ha hb]
        exact (range_up H M c).filter _
      · have : fl a b (A b) = [] := by
          refine List.filter_eq_nil_iff.2 fun x hx => ?_
          obtain ⟨i, _, rfl, h3⟩ := h.arrf b hb x hx
          rw [isAB_fA]
          have := srcA_lt (M := M) (i := i) hH
          rw [decide_eq_false (show ¬ srcA H M i = a by omega)]
          simp
        rw [this]
        exact List.Pairwise.nil
end Go.Proofs.Ytoihhidoafgoaaa
/- The fabric (chapter 15): each call at one line keeps the blocks of other types. -/
namespace Go.Proofs.Ytoihhidoafgoaaa
open Go.RowKit

def Oth (w w' : World) : Prop := ∀ b cs T, Ob w b cs T → ¬ FTy T → Ob w' b cs T
theorem Oth.below {w w' : World} (h : Below w.heap.size w w') : Oth w w' := fun _ _ _ hb _ => hb.below h
theorem Oth.dn (w : World) (n : Nat) : Oth w (w.drewN n) := fun _ _ _ hb _ => hb.dn
theorem Oth.trans {a b c : World} (h : Oth a b) (k : Oth b c) : Oth a c := fun x cs T hx ht => k x cs T (h x cs T hx ht) ht
section
variable {f B0 H S : Nat} {Q A : Nat → List It} {R Lo : Int} {N : Nat} {W0 w w' : World}
theorem FaPost.oth {l : Fl} {s s' : Fs} (h : FaPost f B0 l s s' w w') (hf : Fa f B0 l s w) : Oth w w' := fun b cs T hb ht => by
  obtain ⟨l', _, h2, _⟩ := h
  refine hb.kept h2 fun hh => ?_
  obtain ⟨T', h3, h4⟩ := hf.tys hh
  cases h3.one hb.ty
  exact ht h4
theorem Fi.len (h : Fi f B0 H S Q A R Lo N W0 w) {n : Nat} (hn : n < nP H S) : (Q n).length ≤ N := by
  obtain ⟨⟨l, s, h1, h2, h3, rfl, rfl⟩, h6, h7⟩ := h
  rw [← h2.waits hn]
  exact (h3.p n hn).len
theorem fj_send (h : Fi f B0 H S Q A R Lo N W0 w) {k d : Nat} {x : It} (hs : Hs H S) (hk : k < H) (hd : d < H) (hxd : x.dst = d) (hne : d ≠ k) (hf : okF x.fr) (hdn : x.dn = x.bs.length) (hr : Rd w 1 (.slice x.da x.dn x.dc) x.dn (bcells x.bs)) (hN : N ≤ 1000000) (hx : x.kind ≠ 11 ∧ x.prio = 0) (hR : sumZ (Q k) + x.sz ≤ R) :
    Calls Try.prog 10 #[.pointer (some ⟨f, 0, none⟩), .int .i64 k, x.frv, .int .i64 x.path] w fun e w' => e = .returned (.tuple #[.int .i64 1, .int .i64 0]) ∧ Fi f B0 H S (upd Q k (Q k ++ [x.plain])) A R Lo (N + 2) W0 w' ∧ Oth w w' := by
  obtain ⟨⟨l, s, h1, h2, h3, rfl, rfl⟩, h6, h7⟩ := h
  have hkp : k < nP s.H s.S := by rw [nP_ls]; omega
  have hl := h3.lost
  refine (send_yes h1 hk hd hxd hne hf hdn hr (h3.p k hkp) hN (by omega)).mono ?_
  rintro e w' ⟨r, p', rfl, hr, hp⟩
  obtain ⟨rfl, h8⟩ := h2.send h3 hkp hr hx hR
  have hb := hp.bel h1 h6 h7
  have ho := hp.oth h1
  obtain ⟨l', h9, _, _⟩ := hp
  exact ⟨rfl, ⟨⟨l', _, h9, h8, send_ok h3 hkp (ok_fr hf hdn) (by omega) hr, by unfold lostBy; split <;> rfl, by unfold lostBy; split <;> rfl⟩, hb, h7⟩, ho⟩
theorem fj_serve (h : Fi f B0 H S Q A R Lo N W0 w) {n : Nat} {now : Int} (hn : n < nP H S) (hN : N ≤ 1000000) (hR : ∀ x q m, Q n = x :: q → m < nP H S → sumZ (upd Q n q m) + x.sz ≤ R) (hg : ∀ x q, Q n = x :: q → nxt H S n x.dst.toNat x.path ≠ (-1, false)) :
    Calls Try.prog 12 #[.pointer (some ⟨f, 0, none⟩), .int .i64 n, .int .i64 now] w fun e w' => ∃ b Q' A', e = .returned (.tuple #[.bool b, .int .i64 0]) ∧ Sv H S Q A n b Q' A' ∧ Fi f B0 H S Q' A' R Lo (N + 2) W0 w' ∧ Oth w w' := by
  obtain ⟨⟨l, s, h1, h2, h3, rfl, rfl⟩, h6, h7⟩ := h
  refine (serve_yes h1 hn h3 hN).mono ?_
  rintro e w' ⟨b, s', rfl, hr, hp⟩
  obtain ⟨Q', A', h8, h9, h10, h11⟩ := h2.serve h3 hn hr hR hg
  have hb := hp.bel h1 h6 h7
  have ho := hp.oth h1
  obtain ⟨l', h12, _, _⟩ := hp
  exact ⟨b, Q', A', rfl, h8, ⟨⟨l', s', h12, h9, hr.ok h3 hn, h10, h11⟩, hb, h7⟩, ho⟩
theorem fj_take (h : Fi f B0 H S Q A R Lo N W0 w) {k : Nat} {x : It} {r : List It} (hk : k < H) (hA : A k = x :: r) (hN : N ≤ 1000000) :
    Calls Try.prog 13 #[.pointer (some ⟨f, 0, none⟩), .int .i64 k] w fun e w' => ∃ y : It, e = .returned (.tuple #[y.frv, .bool true]) ∧ y.plain = x ∧ Rd w' 1 (.slice y.da y.dn y.dc) y.dn (bcells y.bs) ∧ Fi f B0 H S Q (upd A k r) R Lo N W0 w' ∧ Oth w w' := by
  obtain ⟨⟨l, s, h1, h2, h3, rfl, rfl⟩, h6, h7⟩ := h
  have hm := h2.a k hk
  rw [hA] at hm
  obtain ⟨y, r', hs, hy, hr'⟩ : ∃ y r', s.A k = y :: r' ∧ y.plain = x ∧ r'.map It.plain = r := by
    cases hs : s.A k with
    | nil => rw [hs] at hm; cases hm
    | cons y r' =>
      rw [hs, List.map_cons] at hm
      exact ⟨y, r', rfl, (List.cons.inj hm).1, (List.cons.inj hm).2⟩
  have hle := h3.a k hk
  refine (take_yes h1 hk hs (by omega)).mono ?_
  rintro e w' ⟨rfl, hp⟩
  have hb := hp.bel h1 h6 h7
  have ho := hp.oth h1
  obtain ⟨l', h9, h10, _⟩ := hp
  obtain ⟨r2, e2, h8⟩ := h2.takeF hk hs
  rw [hA, ← hy] at e2
  cases e2
  have hda := (h1.data k y hk (by rw [hs]; exact List.mem_cons_self)).keptT h10 fun g hg _ => h1.ty hg
  exact ⟨y, rfl, hy, Rd.of_own hda, ⟨⟨l', _, h9, h8, takeF_ok h3 hk hs, rfl, rfl⟩, hb, h7⟩, ho⟩
theorem Fi.setO (h : Fi f B0 H S Q A R Lo N W0 w) {b i : Nat} {cs : Array Value} {T : TypeId} (hb : Ob w b cs T) (ht : ¬ FTy T) (hu : T ≠ TU) (hge : W0.heap.size ≤ b) (v : Value) : Fi f B0 H S Q A R Lo N W0 (w.setCell ⟨b, i, none⟩ v) := by
  obtain ⟨⟨l, s, h1, h2, h3, h4, h5⟩, h6, h7⟩ := h
  refine ⟨⟨l, s, h1.kept (M := Only b) (Kept.refl _ _).setO (fun x hx hh => ?_) fun g hg _ => ⟨T, by rw [show g = b from hg]; exact hb.ty, hu⟩, h2, h3, h4, h5⟩, h6.setCell (p := ⟨b, i, none⟩) hge v, h7⟩
  obtain ⟨T', h8, h9⟩ := h1.tys hx
  rw [show x = b from hh] at h8
  cases h8.one hb.ty
  exact ht h9
end
theorem quiet_str {P : Program} {ops : Array Oper} {C : World → Prop} {Q : Act → Prop} {rest : List Oper} {o : Oper} {a : Act} (hw : Region.wanted o (yielded ops a.tmps) = true) (src dst : TypeId) (x : Operand) (ho : o.op = .convert src dst x) {e : TypeId}
    (hs : P.underlying src = some (.slice e)) (he : P.underlying e = some (.int .u8)) (hd : P.underlying dst = some .string) {v : Value} {l : List UInt8} (h : ∀ w, C w → Rd w 1 v l.length (bcells l)) (hx : a.eval x = v)
    (hk : wpQuiet P ops C Q rest (a.put o.dst (.string ⟨l.toArray⟩))) : wpQuiet P ops C Q (o :: rest) a := by
  unfold wpQuiet
  rw [if_pos hw]
  refine ⟨_, fun w hc => ?_, hk⟩
  unfold Oper.quietAt
  simp [execOp, ho, hx, run_str hs he hd (h w hc), Oper.quietUpon]
abbrev TI : TypeId := 3
abbrev TBo : TypeId := 4
theorem ti_no : ¬ FTy TI := by unfold FTy; decide
theorem tb_no : ¬ FTy TBo := by unfold FTy; decide
/-- a block of numbers, of booleans -/
def icells (n : Nat) (g : Nat → Int) : Array Value := ((List.range n).map fun k => Value.int .i64 (g k)).toArray
def ocells (n : Nat) (g : Nat → Bool) : Array Value := ((List.range n).map fun k => Value.bool (g k)).toArray
theorem icells_get {n k : Nat} (g : Nat → Int) (h : k < n) : (icells n g)[k]? = some (.int .i64 (g k)) := by
  unfold icells
  rw [List.getElem?_toArray, List.getElem?_map, List.getElem?_range h]
  rfl
theorem ocells_get {n k : Nat} (g : Nat → Bool) (h : k < n) : (ocells n g)[k]? = some (.bool (g k)) := by
  unfold ocells
  rw [List.getElem?_toArray, List.getElem?_map, List.getElem?_range h]
  rfl
theorem icells_set (n k : Nat) (g : Nat → Int) (v : Int) : (icells n g).setIfInBounds k (.int .i64 v) = icells n (upd g k v) := by
  unfold icells
  rw [List.setIfInBounds_toArray]
  congr 1
  refine List.ext_getElem (by simp) fun j h1 h2 => ?_
  rw [List.getElem_set]
  simp only [List.getElem_map, List.getElem_range]
  by_cases e : k = j
  · subst e; rw [if_pos rfl, upd_same]
  · rw [if_neg e, upd_other _ _ (fun hh => e hh.symm)]
theorem ocells_set (n k : Nat) (g : Nat → Bool) (v : Bool) : (ocells n g).setIfInBounds k (.bool v) = ocells n (upd g k v) := by
  unfold ocells
  rw [List.setIfInBounds_toArray]
  congr 1
  refine List.ext_getElem (by simp) fun j h1 h2 => ?_
  rw [List.getElem_set]
  simp only [List.getElem_map, List.getElem_range]
  by_cases e : k = j
  · subst e; rw [if_pos rfl, upd_same]
  · rw [if_neg e, upd_other _ _ (fun hh => e hh.symm)]
theorem icells_congr {n : Nat} {g g' : Nat → Int} (h : ∀ k, k < n → g k = g' k) : icells n g = icells n g' := by
  unfold icells
  congr 1
  refine List.map_congr_left fun k hk => ?_
  rw [h k (List.mem_range.1 hk)]
theorem made_icells (n : Nat) : madeCells #[Value.int .i64 0] n = icells n fun _ => 0 := by
  have : (madeCells #[Value.int .i64 0] n).toList = (icells n fun _ => 0).toList := by simp [madeCells, Nat.mod_one, icells, List.map_const']
  exact Array.toList_inj.1 this
theorem made_ocells (n : Nat) : madeCells #[Value.bool false] n = ocells n fun _ => false := by
  have : (madeCells #[Value.bool false] n).toList = (ocells n fun _ => false).toList := by simp [madeCells, Nat.mod_one, ocells, List.map_const']
  exact Array.toList_inj.1 this
theorem info_in : (Try.prog.info? 3).map (fun i => (i.zero, i.size, i.bytes)) = some (some (.int .i64 0), 1, 8) := by kernel_rfl
theorem info_bo : (Try.prog.info? 4).map (fun i => (i.zero, i.size, i.bytes)) = some (some (.bool false), 1, 1) := by kernel_rfl
theorem sumZ_29 : ∀ (l : List It), (∀ x, x ∈ l → x.sz = 29) → sumZ l = 29 * l.length
  | [], _ => rfl
  | x :: l, h => by
    rw [sumZ_cons, sumZ_29 l fun y hy => h y (List.mem_cons_of_mem _ hy), h x List.mem_cons_self, List.length_cons]
    push_cast
    omega
end Go.Proofs.Ytoihhidoafgoaaa
