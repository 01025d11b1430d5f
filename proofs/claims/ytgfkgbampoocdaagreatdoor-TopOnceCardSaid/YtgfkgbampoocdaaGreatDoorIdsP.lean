/- Windows of ids (chapter 9): what their calls reckon. No walk. -/
import Derived.Test.YtgfkgbampoocdaaGreatDoorIns
namespace Go.Proofs.YtgfkgbampoocdaaGreatDoor

def gm : Int → List Int → Int
  | m, [] => m
  | m, x :: r => if x ≤ m then gm (max m (x + 1)) r else m
def gn : Int → List Int → Nat
  | _, [] => 0
  | m, x :: r => if x ≤ m then gn (max m (x + 1)) r + 1 else 0
theorem gm_stop {m : Int} {l : List Int} (h : ∀ x ∈ l.head?, m < x) : gm m l = m ∧ gn m l = 0 := by
  cases l with
  | nil => exact ⟨rfl, rfl⟩
  | cons x r =>
    have : ¬ x ≤ m := by have := h x rfl; omega
    exact ⟨by rw [gm, if_neg this], by rw [gn, if_neg this]⟩
theorem gm_step {m x : Int} {r : List Int} (h : x ≤ m) : gm m (x :: r) = gm (max m (x + 1)) r ∧ gn m (x :: r) = gn (max m (x + 1)) r + 1 := ⟨by rw [gm, if_pos h], by rw [gn, if_pos h]⟩
theorem gn_le : ∀ (l : List Int) (m : Int), gn m l ≤ l.length
  | [], _ => Nat.le_refl _
  | x :: r, m => by
    unfold gn
    split
    · have := gn_le r (max m (x + 1)); rw [List.length_cons]; omega
    · omega
theorem gm_ge : ∀ (l : List Int) (m : Int), m ≤ gm m l
  | [], _ => Int.le_refl _
  | x :: r, m => by
    unfold gm
    split
    · have := gm_ge r (max m (x + 1)); omega
    · omega
theorem gm_le {c : Int} : ∀ (l : List Int) (m : Int), m ≤ c → (∀ x ∈ l, x < c) → gm m l ≤ c
  | [], _, h, _ => h
  | x :: r, m, h, hl => by
    unfold gm
    split
    · exact gm_le r _ (by have := hl x (by simp); omega) (fun y hy => hl y (by simp [hy]))
    · exact h
/-- what is left lies behind the mark -/
theorem gm_rest : ∀ (l : List Int) (m : Int), l.Pairwise (· < ·) → ∀ x ∈ l.drop (gn m l), gm m l < x
  | [], _, _ => by intro x hx; simp at hx
  | y :: r, m, hs => by
    intro x hx
    unfold gm gn at *
    split at hx
    · rw [List.drop_succ_cons] at hx
      rw [if_pos (by assumption)]
      exact gm_rest r _ (List.pairwise_cons.1 hs).2 x hx
    · rename_i h
      rw [if_neg h]
      rw [List.drop_zero] at hx
      rcases List.mem_cons.1 hx with rfl | hx
      · omega
      · have := (List.pairwise_cons.1 hs).1 x hx; omega
/-- what went is below the mark -/
theorem gm_gone : ∀ (l : List Int) (m : Int), ∀ x ∈ l.take (gn m l), x < gm m l
  | [], _ => by intro x hx; simp at hx
  | y :: r, m => by
    intro x hx
    unfold gm gn at *
    split at hx
    · rename_i h
      rw [if_pos h]
      rw [List.take_succ_cons] at hx
      rcases List.mem_cons.1 hx with rfl | hx
      · have := gm_ge r (max m (x + 1)); omega
      · exact gm_gone r _ x hx
    · simp at hx
structure Wd where
  most : Int
  mark : Int
  l : List Int
def Wd.goes (s : Wd) (k : Int) : Wd := ⟨s.most, gm (max s.mark k) s.l, s.l.drop (gn (max s.mark k) s.l)⟩
def Wd.went (s : Wd) (k : Int) : Int := gn (max s.mark k) s.l
def Wd.is (s : Wd) (id : Int) : Bool := id != 0 && (s.l.contains id || decide (id < s.mark))
def Wd.pos (s : Wd) (id : Int) : Nat := s.l.countP (· < id)
def Wd.ins (s : Wd) (id : Int) : Wd := ⟨s.most, s.mark, s.l.take (s.pos id) ++ [id] ++ s.l.drop (s.pos id)⟩
/-- what may be -/
structure Wd.ok (s : Wd) : Prop where
  a0 : 1 ≤ s.most
  a1 : s.most ≤ 100000
  m0 : 1 ≤ s.mark
  m1 : s.mark ≤ 1152921504606846977
  up : s.l.Pairwise (· < ·)
  hi : ∀ x ∈ s.l, s.mark < x ∧ x ≤ 1152921504606846976
  ln : (s.l.length : Int) ≤ s.most
def Wd.code (s : Wd) (id : Int) : Int := if id = 0 ∨ 1152921504606846976 < id then 1 else if s.is id = true then 0 else if s.most ≤ s.l.length ∧ id ≠ s.mark then 4 else 0
def Wd.done (s : Wd) (id : Int) : Wd := if id = 0 ∨ 1152921504606846976 < id then s else if s.is id = true then s else if s.most ≤ s.l.length ∧ id ≠ s.mark then s else (s.ins id).goes s.mark
/-- where it stands: all ahead of it are less, all behind are more -/
theorem pos_split {l : List Int} (hs : l.Pairwise (· < ·)) (id : Int) : l.countP (· < id) ≤ l.length ∧ (∀ x ∈ l.take (l.countP (· < id)), x < id) ∧ (∀ x ∈ l.drop (l.countP (· < id)), id ≤ x) := by
  induction l with
  | nil => simp
  | cons y r ih =>
    obtain ⟨h1, h2⟩ := List.pairwise_cons.1 hs
    obtain ⟨i1, i2, i3⟩ := ih h2
    by_cases hy : y < id
    · rw [List.countP_cons_of_pos (by simpa using hy)]
      refine ⟨by rw [List.length_cons]; omega, fun x hx => ?_, fun x hx => ?_⟩
      · rw [List.take_succ_cons] at hx
        rcases List.mem_cons.1 hx with rfl | hx
        · exact hy
        · exact i2 x hx
      · rw [List.drop_succ_cons] at hx; exact i3 x hx
    · rw [List.countP_cons_of_neg (by simpa using hy)]
      have h0 : r.countP (· < id) = 0 := by
        rw [List.countP_eq_zero]
        intro x hx
        have := h1 x hx
        simp; omega
      rw [h0]
      refine ⟨by simp, by simp, fun x hx => ?_⟩
      rw [List.drop_zero] at hx
      rcases List.mem_cons.1 hx with rfl | hx
      · omega
      · have := h1 x hx; omega
theorem ins_up {l : List Int} (hs : l.Pairwise (· < ·)) {id : Int} (hn : id ∉ l) : (l.take (l.countP (· < id)) ++ [id] ++ l.drop (l.countP (· < id))).Pairwise (· < ·) := by
  obtain ⟨h0, h1, h2⟩ := pos_split hs id
  have h2' : ∀ x ∈ l.drop (l.countP (· < id)), id < x := fun x hx => by
    have := h2 x hx
    rcases Int.lt_or_eq_of_le this with h | rfl
    · exact h
    · exact absurd (List.mem_of_mem_drop hx) hn
  rw [List.append_assoc, List.singleton_append, List.pairwise_append]
  refine ⟨hs.sublist (List.take_sublist _ _), List.pairwise_cons.2 ⟨h2', hs.sublist (List.drop_sublist _ _)⟩, fun x hx y hy => ?_⟩
  rcases List.mem_cons.1 hy with rfl | hy
  · exact h1 x hx
  · have := h1 x hx; have := h2' y hy; omega
theorem ins_mem {l : List Int} {k : Nat} {id x : Int} : x ∈ l.take k ++ [id] ++ l.drop k ↔ x = id ∨ x ∈ l := by
  have e : x ∈ l ↔ x ∈ l.take k ∨ x ∈ l.drop k := by
    rw [← List.mem_append, List.take_append_drop]
  rw [e]; simp only [List.mem_append, List.mem_singleton]
  constructor
  · rintro ((h | h) | h)
    · exact .inr (.inl h)
    · exact .inl h
    · exact .inr (.inr h)
  · rintro (h | h | h)
    · exact .inl (.inr h)
    · exact .inl (.inl h)
    · exact .inr h
theorem ins_len {l : List Int} {k : Nat} (hk : k ≤ l.length) (id : Int) : (l.take k ++ [id] ++ l.drop k).length = l.length + 1 := by
  rw [List.length_append, List.length_append, List.length_take, List.length_drop, List.length_singleton]; omega
end Go.Proofs.YtgfkgbampoocdaaGreatDoor
