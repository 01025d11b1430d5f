/- Windows of ids (chapter 9): what has ended. No walk. -/
import Derived.Test.YtgfkgbampoocdaaGreatDoorIdsP
namespace Go.Proofs.YtgfkgbampoocdaaGreatDoor

def Wd.has (s : Wd) (x : Int) : Prop := x < s.mark ∨ x ∈ s.l
theorem gm_lt : ∀ (l : List Int) (m x : Int), x < gm m l → x < m ∨ x ∈ l
  | [], _, _, h => .inl h
  | y :: r, m, x, h => by
    unfold gm at h
    split at h
    · rcases gm_lt r _ x h with h1 | h1
      · rcases (by omega : x < m ∨ x = y) with h2 | rfl
        · exact .inl h2
        · exact .inr (List.mem_cons_self ..)
      · exact .inr (List.mem_cons_of_mem _ h1)
    · exact .inl h
theorem goes_has (s : Wd) (k x : Int) : (s.goes k).has x ↔ x < max s.mark k ∨ x ∈ s.l := by
  show (x < gm (max s.mark k) s.l ∨ x ∈ s.l.drop (gn (max s.mark k) s.l)) ↔ _
  constructor
  · rintro (h | h)
    · exact gm_lt _ _ _ h
    · exact .inr (List.mem_of_mem_drop h)
  · rintro (h | h)
    · exact .inl (Int.lt_of_lt_of_le h (gm_ge _ _))
    · rw [← List.take_append_drop (gn (max s.mark k) s.l) s.l] at h
      rcases List.mem_append.1 h with h | h
      · exact .inl (gm_gone _ _ x h)
      · exact .inr h
theorem goes_mark (s : Wd) (k : Int) : s.mark ≤ (s.goes k).mark ∧ k ≤ (s.goes k).mark := by
  have := gm_ge s.l (max s.mark k)
  constructor <;> (show _ ≤ gm (max s.mark k) s.l; omega)
theorem goes_okk {s : Wd} {k : Int} (a0 : 1 ≤ s.most) (a1 : s.most ≤ 100000) (m0 : 1 ≤ s.mark) (m1 : s.mark ≤ 1152921504606846977) (k1 : k ≤ 1152921504606846977) (up : s.l.Pairwise (· < ·)) (hi : ∀ x ∈ s.l, x ≤ 1152921504606846976) (ln : (((s.goes k).l).length : Int) ≤ s.most) : (s.goes k).ok := by
  have h1 := gm_ge s.l (max s.mark k)
  have h2 := gm_le (c := 1152921504606846977) s.l (max s.mark k) (by omega) (fun x hx => by have := hi x hx; omega)
  refine ⟨a0, a1, ?_, h2, up.sublist (List.drop_sublist _ _), fun x hx => ⟨gm_rest _ _ up x hx, hi x (List.mem_of_mem_drop hx)⟩, ln⟩
  show 1 ≤ gm (max s.mark k) s.l
  omega
theorem goes_len (s : Wd) (k : Int) : (s.goes k).l.length = s.l.length - gn (max s.mark k) s.l := by
  show (s.l.drop _).length = _
  rw [List.length_drop]
theorem goes_ok {s : Wd} (h : s.ok) (k : Int) (hk : k ≤ 1152921504606846977) : (s.goes k).ok :=
  goes_okk h.a0 h.a1 h.m0 h.m1 hk h.up (fun x hx => (h.hi x hx).2) (by have := goes_len s k; have := h.ln; omega)
theorem is_iff (s : Wd) (x : Int) : s.is x = true ↔ x ≠ 0 ∧ s.has x := by
  unfold Wd.is Wd.has
  simp only [Bool.and_eq_true, bne_iff_ne, ne_eq, Bool.or_eq_true, List.contains_iff_mem, decide_eq_true_eq]
  constructor
  · rintro ⟨h, h1 | h1⟩
    · exact ⟨h, .inr h1⟩
    · exact ⟨h, .inl h1⟩
  · rintro ⟨h, h1 | h1⟩
    · exact ⟨h, .inr h1⟩
    · exact ⟨h, .inl h1⟩
theorem has_not_mark {s : Wd} (h : s.ok) : ¬ s.has s.mark := by
  rintro (h1 | h1)
  · omega
  · have := (h.hi _ h1).1; omega
theorem code_cases (s : Wd) (id : Int) : (s.code id = 1 ∧ s.done id = s ∧ (id = 0 ∨ 1152921504606846976 < id)) ∨ (s.code id = 0 ∧ s.done id = s ∧ s.is id = true) ∨
    (s.code id = 4 ∧ s.done id = s ∧ s.most ≤ s.l.length ∧ id ≠ s.mark ∧ id ≠ 0 ∧ id ≤ 1152921504606846976) ∨ (s.code id = 0 ∧ s.done id = (s.ins id).goes s.mark ∧ id ≠ 0 ∧ id ≤ 1152921504606846976 ∧ s.is id = false ∧ (s.l.length < s.most ∨ id = s.mark)) := by
  unfold Wd.code Wd.done
  by_cases h0 : id = 0 ∨ 1152921504606846976 < id
  · rw [if_pos h0, if_pos h0]; exact .inl ⟨rfl, rfl, h0⟩
  · rw [if_neg h0, if_neg h0]
    by_cases hi : s.is id = true
    · rw [if_pos hi, if_pos hi]; exact .inr (.inl ⟨rfl, rfl, hi⟩)
    · rw [if_neg hi, if_neg hi]
      by_cases hf : s.most ≤ s.l.length ∧ id ≠ s.mark
      · rw [if_pos hf, if_pos hf]; exact .inr (.inr (.inl ⟨rfl, rfl, hf.1, hf.2, by omega, by omega⟩))
      · rw [if_neg hf, if_neg hf]; exact .inr (.inr (.inr ⟨rfl, rfl, by omega, by omega, by simpa using hi, by omega⟩))
theorem done_ok {s : Wd} (h : s.ok) (id : Int) (hid : 0 ≤ id) : (s.done id).ok := by
  rcases code_cases s id with ⟨_, e, _⟩ | ⟨_, e, _⟩ | ⟨_, e, _⟩ | ⟨_, e, h0, h1, h2, h3⟩
  · rw [e]; exact h
  · rw [e]; exact h
  · rw [e]; exact h
  · rw [e]
    have hn : ¬ s.has id := fun hh => by have := (is_iff s id).2 ⟨h0, hh⟩; rw [h2] at this; cases this
    have hl := ins_len (pos_split h.up id).1 id
    refine goes_okk h.a0 h.a1 h.m0 h.m1 h.m1 (ins_up h.up (fun hh => hn (.inr hh))) (fun x hx => ?_) ?_
    · rcases ins_mem.1 hx with rfl | hx
      · exact h1
      · exact (h.hi x hx).2
    · have hg := goes_len (s.ins id) s.mark
      have hl' : (s.ins id).l.length = s.l.length + 1 := hl
      rw [hl'] at hg
      have hln := h.ln
      show ((((s.ins id).goes s.mark).l).length : Int) ≤ s.most
      rcases h3 with h3 | rfl
      · omega
      · have hp : s.pos s.mark = 0 := by
          unfold Wd.pos
          rw [List.countP_eq_zero]
          intro x hx
          have := (h.hi x hx).1
          simp; omega
        have e2 : (s.ins s.mark).l = s.mark :: s.l := by
          show s.l.take (s.pos s.mark) ++ [s.mark] ++ s.l.drop (s.pos s.mark) = _
          rw [hp]; rfl
        have e3 : gn (max (s.ins s.mark).mark s.mark) (s.ins s.mark).l = gn (max (max s.mark s.mark) (s.mark + 1)) s.l + 1 := by
          rw [e2]
          show gn (max s.mark s.mark) (s.mark :: s.l) = _
          exact (gm_step (by omega)).2
        omega
theorem done_has {s : Wd} {id : Int} (hc : s.code id = 0) (x : Int) : (s.done id).has x ↔ x = id ∨ s.has x := by
  rcases code_cases s id with ⟨e1, e, _⟩ | ⟨e1, e, h1⟩ | ⟨e1, e, _⟩ | ⟨_, e, h0, h1, h2, h3⟩
  · rw [e1] at hc; cases hc
  · rw [e]
    constructor
    · exact .inr
    · rintro (rfl | h)
      · exact ((is_iff s _).1 h1).2
      · exact h
  · rw [e1] at hc; cases hc
  · rw [e, goes_has]
    show (x < max s.mark s.mark ∨ x ∈ s.l.take (s.pos id) ++ [id] ++ s.l.drop (s.pos id)) ↔ _
    rw [ins_mem]
    unfold Wd.has
    constructor
    · rintro (h | h | h)
      · exact .inr (.inl (by omega))
      · exact .inl h
      · exact .inr (.inr h)
    · rintro (h | h | h)
      · exact .inr (.inl h)
      · exact .inl (by omega)
      · exact .inr (.inr h)
theorem done_same {s : Wd} {id : Int} (hc : s.code id ≠ 0) : s.done id = s := by
  rcases code_cases s id with ⟨e1, e, _⟩ | ⟨e1, e, h1⟩ | ⟨e1, e, _⟩ | ⟨e1, e, h0, h1, h2, h3⟩
  · exact e
  · exact e
  · exact e
  · exact absurd e1 hc
theorem done_mark (s : Wd) (id : Int) : s.mark ≤ (s.done id).mark := by
  rcases code_cases s id with ⟨e1, e, _⟩ | ⟨e1, e, h1⟩ | ⟨e1, e, _⟩ | ⟨e1, e, h0, h1, h2, h3⟩
  · rw [e]; exact Int.le_refl _
  · rw [e]; exact Int.le_refl _
  · rw [e]; exact Int.le_refl _
  · rw [e]; exact (goes_mark (s.ins id) s.mark).1
theorem done_most (s : Wd) (id : Int) : (s.done id).most = s.most := by
  rcases code_cases s id with ⟨e1, e, _⟩ | ⟨e1, e, h1⟩ | ⟨e1, e, _⟩ | ⟨e1, e, h0, h1, h2, h3⟩ <;> rw [e] <;> rfl
theorem rise_len : ∀ (l : List Int) (a b : Int), l.Pairwise (· < ·) → (∀ x ∈ l, a < x ∧ x ≤ b) → l = [] ∨ (l.length : Int) ≤ b - a
  | [], _, _, _, _ => .inl rfl
  | x :: r, a, b, hs, h => by
    obtain ⟨h1, h2⟩ := List.pairwise_cons.1 hs
    have hx := h x (List.mem_cons_self ..)
    rcases rise_len r x b h2 (fun y hy => ⟨h1 y hy, (h y (List.mem_cons_of_mem _ hy)).2⟩) with rfl | h3
    · right; simp; omega
    · right; rw [List.length_cons]; omega
/-- all that have ended are at most n -/
def Wd.upTo (s : Wd) (n : Int) : Prop := ∀ x, s.has x → x ≤ n
theorem order_step {s : Wd} (h : s.ok) {n id : Int} (hu : s.upTo n) (hm : s.most = 60) (hn : n ≤ 60) (h1 : 1 ≤ id) (h2 : id ≤ n) : s.code id = 0 ∧ (s.done id).upTo n ∧ (s.done id).most = 60 := by
  have hc : s.code id = 0 := by
    rcases code_cases s id with ⟨e1, e, hh⟩ | ⟨e1, e, hh⟩ | ⟨e1, e, hh, _⟩ | ⟨e1, e, _⟩
    · omega
    · exact e1
    · rcases rise_len s.l s.mark n h.up (fun x hx => ⟨(h.hi x hx).1, hu x (.inr hx)⟩) with h5 | h5
      · rw [h5] at hh; simp at hh; omega
      · have := h.m0; omega
    · exact e1
  refine ⟨hc, fun x hx => ?_, by rw [done_most, hm]⟩
  rcases (done_has hc x).1 hx with rfl | hx
  · exact h2
  · exact hu x hx
theorem order_end {s : Wd} (h : s.ok) {n : Int} (hu : s.upTo n) (_h0 : 1 ≤ n) (ha : ∀ x, 1 ≤ x → x ≤ n → s.has x) : s.mark = n + 1 ∧ s.l = [] := by
  have h1 : ¬ s.mark ≤ n := fun hh => has_not_mark h (ha _ h.m0 hh)
  have h2 : s.mark - 1 ≤ n := hu _ (.inl (by omega))
  refine ⟨by omega, ?_⟩
  cases hl : s.l with
  | nil => rfl
  | cons x r =>
    have hx : x ∈ s.l := by rw [hl]; exact List.mem_cons_self ..
    have := (h.hi x hx).1
    have := hu x (.inr hx)
    omega
theorem again_zero {s : Wd} (h : s.ok) (k : Int) : (s.goes k).went k = 0 := by
  have h1 := (goes_mark s k).2
  have h2 := gm_stop (m := max (s.goes k).mark k) (l := (s.goes k).l) (fun x hx => by
    have := gm_rest s.l (max s.mark k) h.up x (List.mem_of_mem_head? hx)
    have e : (s.goes k).mark = gm (max s.mark k) s.l := rfl
    omega)
  unfold Wd.went
  rw [h2.2]; rfl
end Go.Proofs.YtgfkgbampoocdaaGreatDoor
