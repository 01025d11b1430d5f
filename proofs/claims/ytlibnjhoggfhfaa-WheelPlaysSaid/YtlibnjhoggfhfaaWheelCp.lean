/- What is taken back (chapter 2): plain facts. No walk. -/
import Derived.Test.YtlibnjhoggfhfaaWheelQ
import Derived.Test.YtlibnjhoggfhfaaWheelCa
namespace Go.Proofs.Ytlibnjhoggfhfaa

/-- the i-th one that is added -/
def itm (i : Nat) : Du := ⟨((i * 7 % 100 : Nat) : Int), (i : Int) + 1, .int .i64 i⟩
theorem itm_inj {i j : Nat} (h : itm i = itm j) : i = j := by
  have h1 : (i : Int) + 1 = (j : Int) + 1 := congrArg Du.id h
  omega
/-- what waits: those of the first n that are not gone -/
def Wt (n : Nat) (g : List Bool) (l : List Du) : Prop := ∀ x, x ∈ l ↔ ∃ i : Nat, i < n ∧ x = itm i ∧ g[i + 1]? = some false
/-- k were added -/
def Adc (k : Nat) (s : Wl) : Prop := s.most = 50 ∧ s.now = 0 ∧ s.last = (k : Int) ∧ s.l.length = k ∧ ∀ x, x ∈ s.l ↔ ∃ i : Nat, i < k ∧ x = itm i
theorem adc_plus {k : Nat} {s : Wl} (h : Adc k s) (ho : s.ok) : Adc (k + 1) (s.plus ((k * 7 % 100 : Nat) : Int) (.int .i64 k)) := by
  obtain ⟨a1, a2, a3, a4, a5⟩ := h
  refine ⟨a1, a2, by show s.last + 1 = _; rw [a3]; rfl, by rw [plus_len ho, a4], fun x => ?_⟩
  have e : (⟨max ((k * 7 % 100 : Nat) : Int) s.now, s.last + 1, .int .i64 k⟩ : Du) = itm k := by
    rw [a2, a3, Int.max_eq_left (Int.natCast_nonneg _)]; rfl
  rw [plus_mem, e, a5]
  constructor
  · rintro (h | ⟨i, h1, h2⟩)
    · exact ⟨k, Nat.lt_succ_self _, h⟩
    · exact ⟨i, by omega, h2⟩
  · rintro ⟨i, h1, h2⟩
    rcases Nat.lt_or_ge i k with h | h
    · exact .inr ⟨i, h, h2⟩
    · obtain rfl : i = k := by omega
      exact .inl h2
theorem wt_start {n : Nat} {s : Wl} (h : Adc n s) : Wt n (List.replicate (n + 1) false) s.l := by
  intro x
  rw [h.2.2.2.2]
  constructor
  · rintro ⟨i, h1, h2⟩
    exact ⟨i, h1, h2, by rw [List.getElem?_replicate, if_pos (by omega)]⟩
  · rintro ⟨i, h1, h2, _⟩
    exact ⟨i, h1, h2⟩
theorem wt_gone {n i : Nat} {g : List Bool} {l l' : List Du} (h : Wt n g l) (hg : i + 1 < g.length) (hl : ∀ x, x ∈ l' ↔ x ∈ l ∧ x ≠ itm i) : Wt n (g.set (i + 1) true) l' := by
  intro x
  rw [hl, h]
  constructor
  · rintro ⟨⟨j, h1, h2, h3⟩, h4⟩
    refine ⟨j, h1, h2, ?_⟩
    rw [List.getElem?_set, if_neg (fun hh => h4 (by rw [h2]; congr 1; omega))]
    exact h3
  · rintro ⟨j, h1, h2, h3⟩
    rw [List.getElem?_set] at h3
    split at h3
    · cases h3
    · exact ⟨⟨j, h1, h2, h3⟩, fun hh => by rw [h2] at hh; have := itm_inj hh; omega⟩
theorem lt_ne {x y : Du} (h : x.lt y) : x ≠ y := by
  rintro rfl
  unfold Du.lt at h; omega
theorem erase_mem {l : List Du} {p : Du → Bool} {d : Du} (hn : l.Pairwise Du.lt) (hp : ∀ x ∈ l, (p x = true ↔ x = d)) (x : Du) : x ∈ l.eraseP p ↔ x ∈ l ∧ x ≠ d := by
  induction l with
  | nil => simp
  | cons y r ih =>
    obtain ⟨h1, h2⟩ := List.pairwise_cons.1 hn
    have hy := hp y List.mem_cons_self
    by_cases hh : p y = true
    · have hd := hy.1 hh
      subst hd
      rw [List.eraseP_cons_of_pos hh, List.mem_cons]
      constructor
      · exact fun hx => ⟨.inr hx, fun e => lt_ne (h1 x hx) e.symm⟩
      · rintro ⟨hx | hx, hne⟩
        · exact absurd hx hne
        · exact hx
    · rw [List.eraseP_cons_of_neg hh, List.mem_cons, List.mem_cons, ih h2 (fun x hx => hp x (List.mem_cons_of_mem _ hx))]
      constructor
      · rintro (rfl | ⟨h3, h4⟩)
        · exact ⟨.inl rfl, fun e => hh (hy.2 e)⟩
        · exact ⟨.inr h3, h4⟩
      · rintro ⟨h3 | h3, h4⟩
        · exact .inl h3
        · exact .inr ⟨h3, h4⟩
theorem less_ok {s : Wl} (h : s.ok) (id : Int) : (s.less id).ok := by
  have hs : (s.l.eraseP (fun y => y.id == id)).Sublist s.l := List.eraseP_sublist
  have h1 := hs.length_le
  have h2 := h.ln
  exact ⟨h.a0, h.a1, h.n0, h.n1, h.t0, h.t1, h.up.sublist hs, fun x hx => h.ids x (hs.subset hx), fun x hx => h.ats x (hs.subset hx), fun x hx => h.one x (hs.subset hx), by show (((s.l.eraseP (fun y => y.id == id)).length : Nat) : Int) ≤ s.most; omega⟩
/-- what is taken back waits no more -/
theorem wt_less {n k : Nat} {g : List Bool} {s : Wl} (h : Wt n g s.l) (ho : s.ok) (hk : k < n) (hg : g.length = n + 1) : Wt n (g.set (k + 1) true) (s.less ((k : Int) + 1)).l := by
  refine wt_gone h (by omega) (fun x => erase_mem ho.up (fun y hy => ?_) x)
  obtain ⟨i, h1, h2, _⟩ := (h y).1 hy
  subst h2
  rw [beq_iff_eq]
  constructor
  · intro e
    have e : (i : Int) + 1 = (k : Int) + 1 := e
    rw [show i = k by omega]
  · intro e; rw [e]; rfl
theorem wt_any {n : Nat} {g : List Bool} {l : List Du} (h : Wt n g l) (k : Nat) : l.any (fun y => y.id == (k : Int) + 1) = true ↔ k < n ∧ g[k + 1]? = some false := by
  rw [List.any_eq_true]
  constructor
  · rintro ⟨x, hx, he⟩
    obtain ⟨i, h1, h2, h3⟩ := (h x).1 hx
    subst h2
    have e : (i : Int) + 1 = (k : Int) + 1 := beq_iff_eq.1 he
    obtain rfl : i = k := by omega
    exact ⟨h1, h3⟩
  · rintro ⟨h1, h2⟩
    exact ⟨itm k, (h _).2 ⟨k, h1, rfl, h2⟩, beq_iff_eq.2 rfl⟩
theorem wt_none {n : Nat} {g : List Bool} {l : List Du} (h : Wt n g l) {id : Int} (hi : id < 1 ∨ (n : Int) < id) : l.any (fun y => y.id == id) = false := by
  rw [List.any_eq_false]
  intro x hx
  obtain ⟨i, h1, h2, h3⟩ := (h x).1 hx
  subst h2
  rw [beq_iff_eq]
  show ¬ (i : Int) + 1 = id
  omega
/-- what is not there: nothing is taken -/
theorem less_same {s : Wl} {id : Int} (h : s.l.any (fun y => y.id == id) = false) : s.less id = s := by
  have e : s.l.eraseP (fun y => y.id == id) = s.l := List.eraseP_of_forall_not fun y hy => by
    rw [List.any_eq_false] at h
    exact h y hy
  unfold Wl.less
  rw [e]
/-- how many of the first k are not gone -/
def lft (g : List Bool) (k : Nat) : List Nat := (List.range k).filter (fun i => g[i + 1]? == some false)
theorem lft_step (g : List Bool) (k : Nat) : (lft g (k + 1)).length = (lft g k).length + (if g[k + 1]? = some false then 1 else 0) := by
  unfold lft
  rw [List.range_succ, List.filter_append, List.length_append, List.filter_cons]
  by_cases h : g[k + 1]? = some false
  · rw [if_pos (by rw [h]; rfl), if_pos h]; rfl
  · rw [if_neg (by simpa using h), if_neg h]; rfl
theorem lft_le (g : List Bool) (k : Nat) : (lft g k).length ≤ k := by
  have := List.length_filter_le (fun i => g[i + 1]? == some false) (List.range k)
  rw [List.length_range] at this
  exact this
theorem wt_len {n : Nat} {g : List Bool} {l : List Du} (h : Wt n g l) (hl : l.Pairwise Du.lt) : l.length = (lft g n).length := by
  have e : ((lft g n).map itm).length = (lft g n).length := List.length_map ..
  rw [← e]
  refine List.Perm.length_eq ((List.perm_ext_iff_of_nodup (hl.imp lt_ne) ?_).2 fun x => ?_)
  · refine List.Pairwise.map _ (fun a b hab e => hab (itm_inj e)) (List.Pairwise.filter _ List.nodup_range)
  · rw [h, List.mem_map]
    unfold lft
    constructor
    · rintro ⟨i, h1, h2, h3⟩
      exact ⟨i, by rw [List.mem_filter, List.mem_range]; exact ⟨h1, by rw [h3]; rfl⟩, h2.symm⟩
    · rintro ⟨i, h1, h2⟩
      rw [List.mem_filter, List.mem_range] at h1
      exact ⟨i, h1.1, h2.symm, by simpa using h1.2⟩
theorem then_is {s : Wl} {tn : Int} (h0 : s.now = 0) (h1 : 0 ≤ tn) (h2 : tn ≤ 1000) : s.then' tn = tn := by
  unfold Wl.then' clampI
  rw [if_neg (by omega), if_neg (by omega)]
theorem out_goes (s : Wl) (tn : Int) : s.out tn ++ (s.goes tn).l = s.l := List.take_append_drop _ _
/-- the next one that came: it is gone then -/
theorem wt_next {n i : Nat} {g : List Bool} {a r : List Du} {j : Nat} (h : Wt n g (a.drop j ++ r)) (hj : j < a.length) (hn : (a ++ r).Pairwise Du.lt) (hg : g.length = n + 1) (hx : a[j] = itm i) (hi : i < n) : Wt n (g.set (i + 1) true) (a.drop (j + 1) ++ r) := by
  refine wt_gone h (by omega) (fun x => ?_)
  have h1 : a.drop j ++ r = a[j] :: (a.drop (j + 1) ++ r) := by rw [List.drop_eq_getElem_cons hj]; rfl
  have h2 : (a[j] :: (a.drop (j + 1) ++ r)).Pairwise Du.lt := by
    rw [← h1]
    exact hn.sublist (List.Sublist.append (List.drop_sublist _ _) (List.Sublist.refl _))
  rw [h1, ← hx, List.mem_cons]
  obtain ⟨h3, _⟩ := List.pairwise_cons.1 h2
  constructor
  · exact fun hh => ⟨.inr hh, fun e => lt_ne (h3 x hh) e.symm⟩
  · rintro ⟨h4 | h4, h5⟩
    · exact absurd h4 h5
    · exact h4
end Go.Proofs.Ytlibnjhoggfhfaa
