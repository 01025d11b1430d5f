/- Ranges (chapter 5): plain facts. No walk. -/
import Derived.Test.YtkogodoaejoooaaIns
namespace Go.Proofs.Ytkogodoaejoooaa

structure Rg where
  f : Int
  t : Int
def Rg.row (x : Rg) : List Value := [.int .i64 x.f, .int .i64 x.t]
theorem rowRg (x : Rg) : x.row.length = 2 := rfl
def Rg.val (x : Rg) : Value := .agg #[.int .i64 x.f, .int .i64 x.t]
theorem one_rg (l : List Rg) : ∀ u ∈ l.flatMap Rg.row, u.oneCell' = true := by
  intro u hu
  rw [List.mem_flatMap] at hu
  obtain ⟨x, _, hu⟩ := hu
  simp only [Rg.row, List.mem_cons, List.not_mem_nil, or_false] at hu
  rcases hu with rfl | rfl <;> rfl
/-- in order from a on, none empty, none that touch, up to n -/
def Asc (n : Int) : Int → List Rg → Prop
  | _, [] => True
  | a, r :: l => a ≤ r.f ∧ r.f < r.t ∧ r.t ≤ n ∧ Asc n (r.t + 1) l
theorem Asc.weak {n : Int} : ∀ {a a' : Int} {l : List Rg}, Asc n a l → a' ≤ a → Asc n a' l
  | _, _, [], _, _ => trivial
  | _, _, _ :: _, ⟨h1, h2, h3, h4⟩, h => ⟨by omega, h2, h3, h4⟩
def mem : List Rg → Int → Prop
  | [], _ => False
  | r :: l, x => (r.f ≤ x ∧ x < r.t) ∨ mem l x
theorem mem_from {n : Int} : ∀ {a : Int} {l : List Rg} {x : Int}, Asc n a l → mem l x → a ≤ x ∧ x < n
  | _, [], _, _, h => h.elim
  | a, r :: l, x, ⟨h1, h2, h3, h4⟩, h => by
    rcases h with h | h
    · omega
    · have := mem_from h4 h; omega
/-- how many of a range are in it -/
def cov : List Rg → Int → Int → Int
  | [], _, _ => 0
  | r :: l, f, t => max (min r.t t - max r.f f) 0 + cov l f t
theorem cov_nonneg : ∀ (l : List Rg) (f t : Int), 0 ≤ cov l f t
  | [], _, _ => by show (0 : Int) ≤ 0; omega
  | r :: l, f, t => by have := cov_nonneg l f t; show 0 ≤ max _ 0 + _; omega
theorem cov_le {n : Int} : ∀ {a : Int} {l : List Rg} (f t : Int), Asc n a l → cov l f t ≤ max 0 (t - max a f)
  | _, [], _, _, _ => by show (0 : Int) ≤ _; omega
  | a, r :: l, f, t, ⟨h1, h2, h3, h4⟩ => by
    have := cov_le f t h4
    show max (min r.t t - max r.f f) 0 + cov l f t ≤ _
    omega
theorem cov_add : ∀ (l : List Rg) (a b c : Int), a ≤ b → b ≤ c → (∀ r ∈ l, r.f ≤ r.t) → cov l a b + cov l b c = cov l a c
  | [], _, _, _, _, _, _ => rfl
  | r :: l, a, b, c, h1, h2, h => by
    have h3 := cov_add l a b c h1 h2 (fun r hr => h r (List.mem_cons_of_mem _ hr))
    have h4 := h r List.mem_cons_self
    show max (min r.t b - max r.f a) 0 + cov l a b + (max (min r.t c - max r.f b) 0 + cov l b c) = max (min r.t c - max r.f a) 0 + cov l a c
    omega
theorem asc_le {n : Int} : ∀ {a : Int} {l : List Rg}, Asc n a l → ∀ r ∈ l, a ≤ r.f ∧ r.f < r.t ∧ r.t ≤ n
  | _, [], _, _, h => by cases h
  | a, r :: l, ⟨h1, h2, h3, h4⟩, y, hy => by
    rcases List.mem_cons.1 hy with rfl | hy
    · exact ⟨h1, h2, h3⟩
    · have := asc_le h4 y hy; omega
theorem cov_one : ∀ (l : List Rg) (x : Int), mem l x → 1 ≤ cov l x (x + 1)
  | [], _, h => h.elim
  | r :: l, x, h => by
    have h0 := cov_nonneg l x (x + 1)
    show 1 ≤ max (min r.t (x + 1) - max r.f x) 0 + _
    rcases h with h | h
    · omega
    · have := cov_one l x h; omega
theorem cov_none : ∀ (l : List Rg) (x : Int), ¬ mem l x → cov l x (x + 1) = 0
  | [], _, _ => rfl
  | r :: l, x, h => by
    have h1 := cov_none l x (fun hh => h (.inr hh))
    have h2 : ¬ (r.f ≤ x ∧ x < r.t) := fun hh => h (.inl hh)
    show max (min r.t (x + 1) - max r.f x) 0 + _ = 0
    omega
theorem cov_all {n a : Int} {l : List Rg} (h : Asc n a l) (f : Int) : ∀ (k : Nat), (∀ x, f ≤ x → x < f + k → mem l x) → (k : Int) ≤ cov l f (f + k)
  | 0, _ => cov_nonneg _ _ _
  | k + 1, hm => by
    have h1 := cov_all h f k (fun x h1 h2 => hm x h1 (by omega))
    have h2 := cov_one l (f + k) (hm _ (by omega) (by omega))
    have h3 := cov_add l f (f + k) (f + k + 1) (by omega) (by omega) (fun r hr => by have := asc_le h r hr; omega)
    have e : f + ((k + 1 : Nat) : Int) = f + k + 1 := by omega
    rw [e]; omega
/-- nothing is fresh where all is there -/
theorem fresh_zero {n a : Int} {l : List Rg} (h : Asc n a l) {f t : Int} (hft : f ≤ t) : t - f - cov l f t = 0 ↔ ∀ x, f ≤ x → x < t → mem l x := by
  constructor
  · intro h0 x h1 h2
    apply Classical.byContradiction
    intro hx
    have hr : ∀ r ∈ l, r.f ≤ r.t := fun r hr => by have := asc_le h r hr; omega
    have e1 := cov_add l f x t h1 (by omega) hr
    have e2 := cov_add l x (x + 1) t (by omega) (by omega) hr
    have e3 := cov_none l x hx
    have e4 := cov_le f x h
    have e5 := cov_le (x + 1) t h
    omega
  · intro hm
    have h1 := cov_all h f (t - f).toNat (fun x h1 h2 => hm x h1 (by omega))
    have h2 := cov_le f t h
    have e : f + ((t - f).toNat : Int) = t := by omega
    rw [e] at h1
    omega
theorem fresh_nonneg {n a : Int} {l : List Rg} (h : Asc n a l) {f t : Int} (hft : f ≤ t) : 0 ≤ t - f - cov l f t := by
  have := cov_le f t h; omega
/-- one range more -/
def absorb : List Rg → Int → Int → List Rg
  | [], f, t => [⟨f, t⟩]
  | r :: l, f, t => if r.f ≤ t then absorb l (min f r.f) (max t r.t) else ⟨f, t⟩ :: r :: l
def put : List Rg → Int → Int → List Rg
  | [], f, t => [⟨f, t⟩]
  | r :: l, f, t => if r.t < f then r :: put l f t else absorb (r :: l) f t
theorem absorb_asc {n : Int} : ∀ {a a' : Int} {l : List Rg} {f t : Int}, Asc n a l → a' ≤ f → a' ≤ a → f < t → t ≤ n → Asc n a' (absorb l f t)
  | _, _, [], _, _, _, h1, _, h3, h4 => ⟨h1, h3, h4, trivial⟩
  | a, a', r :: l, f, t, ⟨g1, g2, g3, g4⟩, h1, h2, h3, h4 => by
    unfold absorb
    split
    · exact absorb_asc g4 (by omega) (by omega) (by omega) (by omega)
    · exact ⟨h1, h3, h4, by show t + 1 ≤ r.f; omega, g2, g3, g4⟩
theorem put_asc {n : Int} : ∀ {a : Int} {l : List Rg} {f t : Int}, Asc n a l → a ≤ f → f < t → t ≤ n → Asc n a (put l f t)
  | _, [], _, _, _, h1, h3, h4 => ⟨h1, h3, h4, trivial⟩
  | a, r :: l, f, t, ⟨g1, g2, g3, g4⟩, h1, h3, h4 => by
    unfold put
    split
    · exact ⟨g1, g2, g3, put_asc g4 (by omega) h3 h4⟩
    · exact absorb_asc (a := a) ⟨g1, g2, g3, g4⟩ h1 (Int.le_refl _) h3 h4
theorem absorb_mem {n : Int} : ∀ {a : Int} {l : List Rg} {f t x : Int}, Asc n a l → f ≤ t → (∀ r ∈ l, f ≤ r.t) → (mem (absorb l f t) x ↔ mem l x ∨ (f ≤ x ∧ x < t))
  | _, [], f, t, x, _, _, _ => by
    show ((f ≤ x ∧ x < t) ∨ False) ↔ (False ∨ _)
    rw [or_false, false_or]
  | a, r :: l, f, t, x, ⟨g1, g2, g3, g4⟩, h1, h2 => by
    unfold absorb
    have hr := h2 r List.mem_cons_self
    split
    · rw [absorb_mem g4 (by omega) (fun y hy => by have := asc_le g4 y hy; omega)]
      show _ ↔ ((r.f ≤ x ∧ x < r.t) ∨ mem l x) ∨ _
      constructor
      · rintro (h | h)
        · exact .inl (.inr h)
        · rcases (by omega : (r.f ≤ x ∧ x < r.t) ∨ (f ≤ x ∧ x < t)) with h | h
          · exact .inl (.inl h)
          · exact .inr h
      · rintro ((h | h) | h)
        · exact .inr (by omega)
        · exact .inl h
        · exact .inr (by omega)
    · show ((f ≤ x ∧ x < t) ∨ mem (r :: l) x) ↔ _
      exact or_comm
theorem put_mem {n : Int} : ∀ {a : Int} {l : List Rg} {f t x : Int}, Asc n a l → f ≤ t → (mem (put l f t) x ↔ mem l x ∨ (f ≤ x ∧ x < t))
  | _, [], f, t, x, _, _ => by
    show ((f ≤ x ∧ x < t) ∨ False) ↔ (False ∨ _)
    rw [or_false, false_or]
  | a, r :: l, f, t, x, ⟨g1, g2, g3, g4⟩, h1 => by
    unfold put
    split
    · show ((r.f ≤ x ∧ x < r.t) ∨ mem (put l f t) x) ↔ ((r.f ≤ x ∧ x < r.t) ∨ mem l x) ∨ _
      rw [put_mem g4 h1, or_assoc]
    · rename_i hh
      exact absorb_mem (a := a) ⟨g1, g2, g3, g4⟩ h1 (fun y hy => by
        rcases List.mem_cons.1 hy with rfl | hy
        · omega
        · have := asc_le g4 y hy; omega)
/-- what is there tells how it is written -/
theorem asc_eq {n : Int} : ∀ {a b : Int} {l k : List Rg}, Asc n a l → Asc n b k → (∀ x, mem l x ↔ mem k x) → l = k
  | _, _, [], [], _, _, _ => rfl
  | _, _, [], r :: k, _, ⟨_, g2, _, _⟩, h => ((h r.f).2 (.inl ⟨Int.le_refl _, g2⟩)).elim
  | _, _, r :: l, [], ⟨_, g2, _, _⟩, _, h => ((h r.f).1 (.inl ⟨Int.le_refl _, g2⟩)).elim
  | _, _, r :: l, s :: k, ⟨_, g2, g3, g4⟩, ⟨_, i2, i3, i4⟩, h => by
    have hf : r.f = s.f := by
      have h1 : s.f ≤ r.f := by
        rcases (h r.f).1 (.inl ⟨Int.le_refl _, g2⟩) with h1 | h1
        · exact h1.1
        · have := mem_from i4 h1; omega
      have h2 : r.f ≤ s.f := by
        rcases (h s.f).2 (.inl ⟨Int.le_refl _, i2⟩) with h2 | h2
        · exact h2.1
        · have := mem_from g4 h2; omega
      omega
    have ht : r.t = s.t := by
      rcases Int.lt_trichotomy r.t s.t with h1 | h1 | h1
      · rcases (h r.t).2 (.inl ⟨by omega, h1⟩) with h2 | h2
        · omega
        · have := mem_from g4 h2; omega
      · exact h1
      · rcases (h s.t).1 (.inl ⟨by omega, h1⟩) with h2 | h2
        · omega
        · have := mem_from i4 h2; omega
    have e : r = s := by cases r; cases s; simp only at hf ht; subst hf ht; rfl
    subst e
    rw [asc_eq g4 i4 (fun x => ?_)]
    have h1 := h x
    constructor
    · intro hx
      rcases h1.1 (.inr hx) with h2 | h2
      · have := mem_from g4 hx; omega
      · exact h2
    · intro hx
      rcases h1.2 (.inr hx) with h2 | h2
      · have := mem_from i4 hx; omega
      · exact h2
theorem put_at : ∀ (l : List Rg) (f t : Int) (i : Nat), i ≤ l.length → (∀ r ∈ l.take i, r.t < f) → (∀ h : i < l.length, f ≤ l[i].t) → put l f t = l.take i ++ absorb (l.drop i) f t
  | [], f, t, i, h0, _, _ => by
    obtain rfl : i = 0 := by simpa using h0
    rfl
  | r :: l, f, t, 0, _, _, h2 => by
    have := h2 (by simp)
    have h3 : ¬ r.t < f := by simpa using this
    show (if r.t < f then _ else _) = _
    rw [if_neg h3]; rfl
  | r :: l, f, t, i + 1, h0, h1, h2 => by
    have h3 : r.t < f := h1 r (by simp)
    show (if r.t < f then _ else _) = _
    rw [if_pos h3, put_at l f t i (by simpa using h0) (fun y hy => h1 y (by simp [hy])) (fun h => h2 (Nat.succ_lt_succ h))]
    rfl
theorem absorb_step {l : List Rg} {i : Nat} {f t : Int} (h : i < l.length) (hf : l[i].f ≤ t) : absorb (l.drop i) f t = absorb (l.drop (i + 1)) (min f l[i].f) (max t l[i].t) := by
  rw [List.drop_eq_getElem_cons h]
  show (if _ then _ else _) = _
  rw [if_pos hf]
theorem absorb_end {l : List Rg} {i : Nat} {f t : Int} (hf : ∀ h : i < l.length, t < l[i].f) : absorb (l.drop i) f t = ⟨f, t⟩ :: l.drop i := by
  rcases Nat.lt_or_ge i l.length with h | h
  · have h1 := hf h
    rw [List.drop_eq_getElem_cons h]
    show (if _ then _ else _) = _
    rw [if_neg (by omega)]
  · rw [List.drop_of_length_le h]; rfl
theorem cov_append (l k : List Rg) (f t : Int) : cov (l ++ k) f t = cov l f t + cov k f t := by
  induction l with
  | nil => show _ = 0 + _; rw [List.nil_append]; omega
  | cons r l ih => show max _ 0 + cov (l ++ k) f t = max _ 0 + cov l f t + cov k f t; rw [ih]; omega
theorem cov_take_step {l : List Rg} {i : Nat} (h : i < l.length) (f t : Int) : cov (l.take (i + 1)) f t = cov (l.take i) f t + max (min l[i].t t - max l[i].f f) 0 := by
  rw [List.take_succ_eq_append_getElem h, cov_append]
  show _ + (max _ 0 + 0) = _
  omega
theorem Asc.take {n : Int} : ∀ {a : Int} {l : List Rg} (i : Nat), Asc n a l → Asc n a (l.take i)
  | _, [], i, _ => by rw [List.take_nil]; trivial
  | _, _ :: _, 0, _ => trivial
  | _, _ :: _, i + 1, ⟨h1, h2, h3, h4⟩ => ⟨h1, h2, h3, h4.take i⟩
/-- how many bytes -/
def total : List Rg → Int
  | [] => 0
  | r :: l => r.t - r.f + total l
theorem total_append (l k : List Rg) : total (l ++ k) = total l + total k := by
  induction l with
  | nil => show _ = 0 + _; rw [List.nil_append]; omega
  | cons r l ih => show _ + total (l ++ k) = _ + total l + total k; rw [ih]; omega
theorem total_step {l : List Rg} {i : Nat} (h : i < l.length) : total (l.take (i + 1)) = total (l.take i) + (l[i].t - l[i].f) := by
  rw [List.take_succ_eq_append_getElem h, total_append]
  show _ + (_ + 0) = _
  omega
theorem total_le {n : Int} : ∀ {a : Int} {l : List Rg}, Asc n a l → 0 ≤ total l ∧ total l ≤ max 0 (n - a)
  | _, [], _ => ⟨Int.le_refl _, by show (0 : Int) ≤ _; omega⟩
  | a, r :: l, ⟨h1, h2, h3, h4⟩ => by
    have := total_le h4
    show 0 ≤ _ + total l ∧ _ + total l ≤ _
    omega
/-- what is not there, up to a place, at most so many -/
def gp (upto most : Int) : List Rg → Int → List Rg → List Rg
  | [], _, out => out
  | r :: l, a, out => gp upto most l r.t (if a < min r.f upto ∧ (out.length : Int) < most then out ++ [⟨a, min r.f upto⟩] else out)
/-- the gaps -/
def gaps (n : Int) : List Rg → Int → List Rg
  | [], a => if a < n then [⟨a, n⟩] else []
  | r :: l, a => if a < r.f then ⟨a, r.f⟩ :: gaps n l r.t else gaps n l r.t
theorem gp_gaps {n most : Int} : ∀ {b : Int} {l : List Rg} {a : Int} {out : List Rg}, Asc n b l → ((out.length + l.length : Nat) : Int) < most → gp n most (l ++ [⟨n, n⟩]) a out = out ++ gaps n l a
  | _, [], a, out, _, h => by
    have h1 : (out.length : Int) < most := by simpa using h
    show (if a < min n n ∧ (out.length : Int) < most then out ++ [⟨a, min n n⟩] else out) = out ++ if a < n then [⟨a, n⟩] else []
    rw [Int.min_self]
    by_cases ha : a < n
    · rw [if_pos ⟨ha, h1⟩, if_pos ha]
    · rw [if_neg (fun hh => ha hh.1), if_neg ha, List.append_nil]
  | _, r :: l, a, out, ⟨h1, h2, h3, h4⟩, h => by
    rw [List.length_cons] at h
    have hm : min r.f n = r.f := by omega
    show gp n most (l ++ [⟨n, n⟩]) r.t (if a < min r.f n ∧ (out.length : Int) < most then out ++ [⟨a, min r.f n⟩] else out) = out ++ if a < r.f then ⟨a, r.f⟩ :: gaps n l r.t else gaps n l r.t
    rw [hm]
    by_cases ha : a < r.f
    · rw [if_pos ⟨ha, by omega⟩, if_pos ha, gp_gaps h4 (by rw [List.length_append, List.length_singleton]; omega), List.append_assoc]; rfl
    · rw [if_neg (fun hh => ha hh.1), if_neg ha, gp_gaps h4 (by omega)]
theorem put_len (l : List Rg) (f t : Int) : (put l f t).length ≤ l.length + 1 := by
  have ha : ∀ (l : List Rg) (f t : Int), (absorb l f t).length ≤ l.length + 1 := by
    intro l
    induction l with
    | nil => intro f t; exact Nat.le_refl _
    | cons r l ih =>
      intro f t
      unfold absorb
      split
      · have := ih (min f r.f) (max t r.t); rw [List.length_cons]; omega
      · simp
  induction l with
  | nil => exact Nat.le_refl _
  | cons r l ih =>
    unfold put
    split
    · rw [List.length_cons, List.length_cons]; omega
    · exact ha _ _ _
theorem flat_rep (l : List Rg) (i j : Nat) (d : Rg) : (l.flatMap Rg.row).take (i * 2) ++ d.row ++ (l.flatMap Rg.row).drop (j * 2) = (l.take i ++ d :: l.drop j).flatMap Rg.row := by
  rw [flat_take rowRg, flat_drop rowRg, List.flatMap_append, List.flatMap_cons, List.append_assoc]
end Go.Proofs.Ytkogodoaejoooaa
