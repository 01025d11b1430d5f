/- Who waits (chapter 18): peers that all wait take turns. No walk. -/
import Derived.Test.YtohjnplhmbfjlaaPuG
namespace Go.Proofs.Ytohjnplhmbfjlaa

theorem sumTo_upd (L : Nat → List Fl) (p : Nat) (l : List Fl) : ∀ n, sumTo (upd L p l) n = sumTo L n + (if p < n then sumW l - sumW (L p) else 0)
  | 0 => by simp [sumTo]
  | n + 1 => by
    have ih := sumTo_upd L p l n
    show sumTo (upd L p l) n + sumW (upd L p l n) = sumTo L n + sumW (L n) + _
    rw [ih]
    by_cases h : n = p
    · subst h
      rw [upd_same, if_neg (Nat.lt_irrefl _), if_pos (Nat.lt_succ_self _)]
      omega
    · rw [upd_other _ _ h]
      by_cases h2 : p < n
      · rw [if_pos h2, if_pos (by omega)]; omega
      · rw [if_neg h2, if_neg (by omega)]; omega
theorem sumW_set {l : List Fl} {i : Nat} (h : i < l.length) (x : Fl) : sumW (l.set i x) = sumW l - l[i].wt + x.wt := by
  induction l generalizing i with
  | nil => simp at h
  | cons a l ih =>
    cases i with
    | zero => simp [sumW]; omega
    | succ i =>
      have := ih (i := i) (by simpa using h)
      simp only [sumW, List.set_cons_succ, List.map_cons, List.sum_cons, List.getElem_cons_succ] at this ⊢
      omega
theorem serve_sum {s : Ps} {p i : Nat} {x : Fl} (hp : p < 8) (hx : (s.L p)[i]? = some x) : sumTo (s.serve p i x).L 8 = sumTo s.L 8 - 1 := by
  obtain ⟨hi, hx⟩ := List.getElem?_eq_some_iff.1 hx
  show sumTo (upd s.L p _) 8 = _
  rw [sumTo_upd, if_pos hp, sumW_set hi, hx]
  show sumTo s.L 8 + (sumW (s.L p) - x.wt + (x.wt - 1) - sumW (s.L p)) = _
  omega
theorem pick_nil (Z : Int) : pick [] Z = none := rfl
theorem pick_single {x : Fl} (Z : Int) (h : 0 < x.wt) : pick [x] Z = some 0 := by
  unfold pick
  rw [List.findIdx?_cons, List.findIdx?_cons]
  simp only [h, decide_true, Bool.and_true, if_true]
  by_cases hz : Z < x.id
  · simp [hz]
  · simp [hz]
/-- whose turn it is, if it is known -/
theorem next_is {s : Ps} {k0 k i0 i : Nat} (h0 : ∀ j, j < k0 → s.idle j) (hp : pick (s.L (s.turn k0)) (s.Z (s.turn k0)) = some i0) (h : ∀ j, j < k → s.idle j) (hk : pick (s.L (s.turn k)) (s.Z (s.turn k)) = some i) : k = k0 ∧ i = i0 := by
  have e : k = k0 := by
    rcases Nat.lt_trichotomy k k0 with h1 | h1 | h1
    · have := h0 k h1; unfold Ps.idle at this; rw [hk] at this; cases this
    · exact h1
    · have := h k0 h1; unfold Ps.idle at this; rw [hp] at this; cases this
  subst e
  rw [hp] at hk
  injection hk with hk
  exact ⟨rfl, hk.symm⟩
def got (P i p : Nat) : Nat := i / P + (if p < i % P then 1 else 0)
theorem step_div {P i : Nat} (hP : 0 < P) : (i % P + 1 < P ∧ (i + 1) / P = i / P ∧ (i + 1) % P = i % P + 1) ∨ (i % P + 1 = P ∧ (i + 1) / P = i / P + 1 ∧ (i + 1) % P = 0) := by
  have h1 := Nat.mod_lt i hP
  have h2 := Nat.mod_add_div i P
  rcases (by omega : i % P + 1 < P ∨ i % P + 1 = P) with h | h
  · have := (Nat.div_mod_unique (a := i + 1) (d := i / P) (c := i % P + 1) hP).2 ⟨by omega, h⟩
    exact .inl ⟨h, this⟩
  · have := (Nat.div_mod_unique (a := i + 1) (d := i / P + 1) (c := 0) hP).2 ⟨by rw [Nat.mul_add]; omega, hP⟩
    exact .inr ⟨h, this⟩
theorem got_step {P i p : Nat} (hp : p < P) : got P (i + 1) p = got P i p + (if p = i % P then 1 else 0) := by
  unfold got
  rcases step_div (i := i) (Nat.lt_of_le_of_lt (Nat.zero_le p) hp) with ⟨h, h1, h2⟩ | ⟨h, h1, h2⟩
  · rw [h1, h2]
    repeat' split
    all_goals omega
  · rw [h1, h2]
    repeat' split
    all_goals omega
def Fst (P W i : Nat) : Ps := ⟨10, P, if i = 0 then 0 else if i % P = 0 then P else (i % P : Nat), fun p => if p < P then [⟨p + 5, W - got P i p, got P i p⟩] else [], fun p => if p < P ∧ 0 < got P i p then p + 5 else 0⟩
def Wst (W p0 : Nat) : Ps := ⟨10, p0, 0, fun p => if p < p0 then [⟨p + 5, W, 0⟩] else [], fun _ => 0⟩
theorem wst_empty (W : Nat) : empty 10 = Wst W 0 := by
  unfold empty Wst
  congr 1
  all_goals first | rfl | (funext p; simp)
theorem wst_none {W p : Nat} : (Wst W p).L p = [] := by
  show (if p < p then _ else _) = _
  rw [if_neg (Nat.lt_irrefl _)]
theorem wst_step {W p : Nat} (h : p < 8) : (Wst W p).wantAt p (p + 5) W 0 false = (0, Wst W (p + 1)) := by
  have h1 : ¬ ((Wst W p).most ≤ (Wst W p).known) := by show ¬ ((10 : Int) ≤ p); omega
  simp only [Ps.wantAt, if_neg h1, Bool.false_eq_true, if_false, wst_none]
  unfold Wst
  congr 2
  funext q
  unfold upd
  by_cases hq : q = p
  · subst hq
    rw [if_pos rfl, if_pos (Nat.lt_succ_self _)]; rfl
  · rw [if_neg hq]
    by_cases h2 : q < p
    · simp [h2, show q < p + 1 by omega]
    · simp [h2, show ¬ q < p + 1 by omega]
theorem got_zero (P p : Nat) : got P 0 p = 0 := by simp [got]
theorem fst_zero (P W : Nat) : Wst W P = Fst P W 0 := by
  unfold Wst Fst
  congr 1
  · funext p; simp [got_zero]
  · funext p; simp [got_zero]
theorem wst_sum (W : Nat) : ∀ p, p ≤ 8 → sumTo (Wst W p).L 8 = p * W
  | 0, _ => by simp [sumTo, Wst, sumW]
  | p + 1, h => by
    have ih := wst_sum W p (by omega)
    have e := congrArg (fun z => sumTo z.2.L 8) (wst_step (W := W) (p := p) (by omega))
    have h1 : ¬ ((Wst W p).most ≤ (Wst W p).known) := by show ¬ ((10 : Int) ≤ p); omega
    simp only [Ps.wantAt, if_neg h1, Bool.false_eq_true, if_false, wst_none] at e
    rw [← e, sumTo_upd, ih, wst_none, if_pos (by omega)]
    show (p : Int) * W + ((W : Int) + 0 - 0) = _
    rw [show ((p + 1 : Nat) : Int) = (p : Int) + 1 by omega, Int.add_mul]; omega
/-- the next one, and what is behind it -/
theorem fst_next {P W i : Nat} (h1 : 1 ≤ P) (h8 : P ≤ 8) (hi : i < P * W) :
    ∃ k0, k0 < 8 ∧ (Fst P W i).turn k0 = i % P ∧ (∀ j, j < k0 → (Fst P W i).idle j) ∧ pick ((Fst P W i).L (i % P)) ((Fst P W i).Z (i % P)) = some 0 := by
  have hm := Nat.mod_lt i h1
  have hg : got P i (i % P) = i / P := by unfold got; rw [if_neg (Nat.lt_irrefl _)]; omega
  have hd : i / P < W := Nat.div_lt_of_lt_mul hi
  have hL : (Fst P W i).L (i % P) = [⟨(i % P : Nat) + 5, W - got P i (i % P), got P i (i % P)⟩] := if_pos hm
  have hpk : pick ((Fst P W i).L (i % P)) ((Fst P W i).Z (i % P)) = some 0 := by
    rw [hL]
    refine pick_single _ ?_
    show (0 : Int) < (W : Int) - (got P i (i % P) : Nat)
    rw [hg]; omega
  by_cases h0 : i ≠ 0 ∧ i % P = 0
  · have hlast : (Fst P W i).last = P := by
      show (if i = 0 then (0 : Int) else if i % P = 0 then (P : Int) else _) = _
      rw [if_neg h0.1, if_pos h0.2]
    refine ⟨8 - P, by omega, ?_, fun j hj => ?_, hpk⟩
    · unfold Ps.turn
      rw [hlast, h0.2]
      omega
    · unfold Ps.idle
      have ht : (Fst P W i).turn j = P + j := by unfold Ps.turn; rw [hlast]; omega
      rw [ht]
      have : (Fst P W i).L (P + j) = [] := if_neg (by omega)
      rw [this]; rfl
  · have hlast : (Fst P W i).last = (i % P : Nat) := by
      show (if i = 0 then (0 : Int) else if i % P = 0 then (P : Int) else _) = _
      by_cases hz : i = 0
      · subst hz; simp
      · rw [if_neg hz, if_neg (fun h => h0 ⟨hz, h⟩)]
    refine ⟨0, by decide, ?_, fun j hj => by omega, hpk⟩
    unfold Ps.turn
    rw [hlast]
    omega
theorem fst_step {P W i : Nat} (h1 : 1 ≤ P) : (Fst P W i).serve (i % P) 0 ⟨(i % P : Nat) + 5, W - (i / P : Nat), (i / P : Nat)⟩ = Fst P W (i + 1) := by
  have hm := Nat.mod_lt i h1
  have hg : got P i (i % P) = i / P := by unfold got; rw [if_neg (Nat.lt_irrefl _)]; omega
  unfold Ps.serve
  show Ps.mk _ _ _ _ _ = Ps.mk _ _ _ _ _
  congr 1
  · rw [if_neg (Nat.succ_ne_zero i)]
    rcases step_div (i := i) h1 with ⟨h, _, h2⟩ | ⟨h, _, h2⟩
    · rw [h2, if_neg (Nat.succ_ne_zero _)]; omega
    · rw [h2, if_pos rfl]; omega
  · funext q
    by_cases hq : q = i % P
    · subst hq
      have e : (Fst P W i).L (i % P) = [⟨(i % P : Nat) + 5, W - got P i (i % P), got P i (i % P)⟩] := if_pos hm
      rw [upd_same, e, if_pos hm, got_step hm, if_pos rfl, hg]
      generalize i / P = r
      generalize i % P = m
      show [_] = [_]
      congr 2
      all_goals (dsimp only; omega)
    · rw [upd_other _ _ hq]
      show (if q < P then _ else _) = _
      by_cases h2 : q < P
      · rw [if_pos h2, if_pos h2, got_step h2, if_neg hq]; rfl
      · rw [if_neg h2, if_neg h2]
  · funext q
    by_cases hq : q = i % P
    · subst hq
      rw [upd_same, if_pos ⟨hm, by rw [got_step hm, if_pos rfl]; omega⟩]
    · rw [upd_other _ _ hq]
      show (if q < P ∧ _ then _ else _) = _
      by_cases h2 : q < P
      · rw [got_step h2, if_neg hq]; rfl
      · rw [if_neg (fun h => h2 h.1), if_neg (fun h => h2 h.1)]
theorem got_le {P i p q : Nat} : got P i p ≤ got P i q + 1 := by
  unfold got
  split <;> split <;> omega
end Go.Proofs.Ytohjnplhmbfjlaa
