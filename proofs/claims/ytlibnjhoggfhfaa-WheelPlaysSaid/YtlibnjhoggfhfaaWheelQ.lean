/- A wheel (chapter 2): what its calls keep. No walk. -/
import Derived.Test.YtlibnjhoggfhfaaWheelV
namespace Go.Proofs.Ytlibnjhoggfhfaa

theorem pos_splitD {l : List Du} (hs : l.Pairwise Du.lt) (d : Du) : l.countP (fun y => decide (y.cmp d < 0)) ≤ l.length ∧ (∀ x ∈ l.take (l.countP (fun y => decide (y.cmp d < 0))), x.lt d) ∧ (∀ x ∈ l.drop (l.countP (fun y => decide (y.cmp d < 0))), ¬ x.lt d) := by
  induction l with
  | nil => simp
  | cons y r ih =>
    obtain ⟨h1, h2⟩ := List.pairwise_cons.1 hs
    obtain ⟨i1, i2, i3⟩ := ih h2
    by_cases hy : y.cmp d < 0
    · rw [List.countP_cons_of_pos (by simpa using hy)]
      refine ⟨by rw [List.length_cons]; omega, fun x hx => ?_, fun x hx => ?_⟩
      · rw [List.take_succ_cons] at hx
        rcases List.mem_cons.1 hx with rfl | hx
        · exact (cmp_lt _ _).1 hy
        · exact i2 x hx
      · rw [List.drop_succ_cons] at hx; exact i3 x hx
    · rw [List.countP_cons_of_neg (by simpa using hy)]
      have hyd : ¬ y.lt d := fun h => hy ((cmp_lt _ _).2 h)
      have hall : ∀ x ∈ r, ¬ x.lt d := fun x hx h => hyd (lt_trans (h1 x hx) h)
      have h0 : r.countP (fun y => decide (y.cmp d < 0)) = 0 := by
        rw [List.countP_eq_zero]
        intro x hx
        have := hall x hx
        rw [← cmp_lt] at this
        simpa using this
      rw [h0]
      refine ⟨by simp, by simp, fun x hx => ?_⟩
      rw [List.drop_zero] at hx
      rcases List.mem_cons.1 hx with rfl | hx
      · exact hyd
      · exact hall x hx
theorem insd_mem {l : List Du} {k : Nat} {d x : Du} : x ∈ l.take k ++ [d] ++ l.drop k ↔ x = d ∨ x ∈ l := by
  have e : x ∈ l ↔ x ∈ l.take k ∨ x ∈ l.drop k := by
    rw [← List.mem_append, List.take_append_drop]
  rw [e]; simp only [List.mem_append, List.mem_singleton]
  constructor
  · rintro ((h | h) | h)
    · exact .inr (.inl h)
    · exact .inl h
    · exact .inr (.inr h)
  · rintro (h | h | h)
    · exact .inl (.inr h)
    · exact .inl (.inl h)
    · exact .inr h
theorem plus_mem {s : Wl} {a : Int} {v : Value} {x : Du} : x ∈ (s.plus a v).l ↔ x = (⟨max a s.now, s.last + 1, v⟩ : Du) ∨ x ∈ s.l := insd_mem
theorem plus_len {s : Wl} (h : s.ok) (a : Int) (v : Value) : (s.plus a v).l.length = s.l.length + 1 := insd_len (pos_splitD h.up _).1 _
theorem plus_ok {s : Wl} (h : s.ok) {a : Int} {v : Value} (hv : v.oneCell' = true) (hl : (s.l.length : Int) < s.most) (ht : s.last < 1000000000) : (s.plus a v).ok := by
  obtain ⟨h0, h1, h2⟩ := pos_splitD h.up (⟨max a s.now, s.last + 1, v⟩ : Du)
  refine ⟨h.a0, h.a1, h.n0, h.n1, by have := h.t0; show 0 ≤ s.last + 1; omega, by show s.last + 1 ≤ _; omega, ?_, fun x hx => ?_, fun x hx => ?_, fun x hx => ?_, ?_⟩
  · show (s.l.take (s.pos (⟨max a s.now, s.last + 1, v⟩ : Du)) ++ [(⟨max a s.now, s.last + 1, v⟩ : Du)] ++ s.l.drop (s.pos (⟨max a s.now, s.last + 1, v⟩ : Du))).Pairwise Du.lt
    have h2' : ∀ x ∈ s.l.drop (s.pos (⟨max a s.now, s.last + 1, v⟩ : Du)), (⟨max a s.now, s.last + 1, v⟩ : Du).lt x := fun x hx => by
      have h3 := h2 x hx
      have h4 := (h.ids x (List.mem_of_mem_drop hx)).2
      unfold Du.lt at h3 ⊢
      simp only at h3 ⊢
      omega
    rw [List.append_assoc, List.singleton_append, List.pairwise_append]
    refine ⟨h.up.sublist (List.take_sublist _ _), List.pairwise_cons.2 ⟨h2', h.up.sublist (List.drop_sublist _ _)⟩, fun x hx y hy => ?_⟩
    rcases List.mem_cons.1 hy with rfl | hy
    · exact h1 x hx
    · exact lt_trans (h1 x hx) (h2' y hy)
  · have ht0 := h.t0
    rcases plus_mem.1 hx with rfl | hx
    · exact ⟨by show 1 ≤ s.last + 1; omega, by show s.last + 1 ≤ s.last + 1; omega⟩
    · have := h.ids x hx
      exact ⟨this.1, by show x.id ≤ s.last + 1; omega⟩
  · rcases plus_mem.1 hx with rfl | hx
    · exact .inl (by show s.now ≤ max a s.now; omega)
    · exact h.ats x hx
  · rcases plus_mem.1 hx with rfl | hx
    · exact hv
    · exact h.one x hx
  · rw [plus_len h]; show ((s.l.length + 1 : Nat) : Int) ≤ s.most; omega
theorem then_b {s : Wl} (h : s.ok) (tn : Int) : s.now ≤ s.then' tn ∧ s.then' tn ≤ 1125899906842624 := by
  have := h.n1
  unfold Wl.then' clampI
  split
  · omega
  · split <;> omega
theorem goes_ok {s : Wl} (h : s.ok) (tn : Int) : (s.goes tn).ok := by
  have hb := then_b h tn
  have hn := h.n0
  refine ⟨h.a0, h.a1, by show 0 ≤ s.then' tn; omega, hb.2, h.t0, h.t1, h.up.sublist (List.drop_sublist _ _), fun x hx => h.ids x (List.mem_of_mem_drop hx), fun x hx => .inr (by rcases h.ats x (List.mem_of_mem_drop hx) with h | h <;> omega), fun x hx => h.one x (List.mem_of_mem_drop hx), ?_⟩
  have h1 : (s.goes tn).l.length ≤ s.l.length := by show (s.l.drop _).length ≤ _; rw [List.length_drop]; omega
  have h2 := h.ln
  show (((s.goes tn).l.length : Nat) : Int) ≤ s.most
  omega
/-- what has come at a time, and what has not -/
theorem cnt_split {s : Wl} (hs : s.l.Pairwise Du.lt) (n : Int) : s.cnt n ≤ s.l.length ∧ (∀ x ∈ s.l.take (s.cnt n), x.at' ≤ n) ∧ (∀ x ∈ s.l.drop (s.cnt n), n < x.at') := by
  unfold Wl.cnt
  generalize s.l = l at hs
  induction l with
  | nil => simp
  | cons y r ih =>
    obtain ⟨h1, h2⟩ := List.pairwise_cons.1 hs
    obtain ⟨i1, i2, i3⟩ := ih h2
    by_cases hy : y.at' ≤ n
    · rw [List.countP_cons_of_pos (by simpa using hy)]
      refine ⟨by rw [List.length_cons]; omega, fun x hx => ?_, fun x hx => ?_⟩
      · rw [List.take_succ_cons] at hx
        rcases List.mem_cons.1 hx with rfl | hx
        · exact hy
        · exact i2 x hx
      · rw [List.drop_succ_cons] at hx; exact i3 x hx
    · rw [List.countP_cons_of_neg (by simpa using hy)]
      have hall : ∀ x ∈ r, n < x.at' := fun x hx => by
        have := h1 x hx
        unfold Du.lt at this
        omega
      have h0 : r.countP (fun y => decide (y.at' ≤ n)) = 0 := by
        rw [List.countP_eq_zero]
        intro x hx
        have := hall x hx
        simp; omega
      rw [h0]
      refine ⟨by simp, by simp, fun x hx => ?_⟩
      rw [List.drop_zero] at hx
      rcases List.mem_cons.1 hx with rfl | hx
      · omega
      · exact hall x hx
theorem cnt_eq {s : Wl} {n : Int} {k : Nat} (hk : k ≤ s.l.length) (h1 : ∀ x ∈ s.l.take k, x.at' ≤ n) (h2 : ∀ x ∈ s.l.drop k, n < x.at') : s.cnt n = k :=
  countP_split _ hk (fun x hx => decide_eq_true (h1 x hx)) (fun x hx => decide_eq_false (by have := h2 x hx; omega))
theorem pos_eq {s : Wl} {d : Du} {k : Nat} (hk : k ≤ s.l.length) (h1 : ∀ x ∈ s.l.take k, x.lt d) (h2 : ∀ x ∈ s.l.drop k, ¬ x.lt d) : s.pos d = k :=
  countP_split _ hk (fun x hx => decide_eq_true ((cmp_lt _ _).2 (h1 x hx))) (fun x hx => decide_eq_false (fun h => h2 x hx ((cmp_lt _ _).1 h)))
/-- one more behind all -/
theorem plus_last {s : Wl} {a : Int} {v : Value} (h : ∀ x ∈ s.l, x.lt (⟨max a s.now, s.last + 1, v⟩ : Du)) : (s.plus a v).l = s.l ++ [(⟨max a s.now, s.last + 1, v⟩ : Du)] := by
  have hp : s.pos (⟨max a s.now, s.last + 1, v⟩ : Du) = s.l.length := pos_eq (Nat.le_refl _) (fun x hx => h x (List.mem_of_mem_take hx)) (fun x hx => by rw [List.drop_length] at hx; cases hx)
  unfold Wl.plus
  simp only [hp, List.take_length, List.drop_length, List.append_nil]
end Go.Proofs.Ytlibnjhoggfhfaa
