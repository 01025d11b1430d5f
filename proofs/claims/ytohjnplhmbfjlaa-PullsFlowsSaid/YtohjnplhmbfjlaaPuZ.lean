/- Who waits (chapter 18): flows of one peer take turns. No walk. -/
import Derived.Test.YtohjnplhmbfjlaaPuY
namespace Go.Proofs.Ytohjnplhmbfjlaa

/-- flows j + 1 .. F of peer 3 -/
def flr (F i : Nat) : List Fl := (List.range F).map (fun (j : Nat) => (⟨j + 1, 1000 - got F i j, got F i j⟩ : Fl))
def Flst (F i : Nat) : Ps := ⟨20, F, if i = 0 then 0 else 4, fun p => if p = 3 then flr F i else [], fun p => if p = 3 then (if i = 0 then 0 else if i % F = 0 then F else (i % F : Nat)) else 0⟩
/-- while they come: those behind d stand there -/
def Wfl (F d : Nat) : Ps := ⟨20, (F - d : Nat), 0, fun p => if p = 3 then (List.range (F - d)).map (fun (j : Nat) => (⟨d + j + 1, 1000, 0⟩ : Fl)) else [], fun _ => 0⟩
theorem wfl_empty (F : Nat) : empty 20 = Wfl F F := by
  unfold empty Wfl
  congr 1
  · simp
  · funext p; simp
theorem wfl_zero (F : Nat) : Wfl F 0 = Flst F 0 := by
  unfold Wfl Flst flr
  congr 1
  · funext p
    by_cases h : p = 3
    · simp only [h, if_true, got_zero, Nat.sub_zero]
      refine List.map_congr_left fun j _ => ?_
      congr 1
      omega
    · simp [h]
  · funext p; simp
theorem wfl_find {F d : Nat} {i : Nat} {f : Bool} (h : Fnd ((Wfl F (d + 1)).L 3) ((d : Nat) + 1) i f) : i = 0 ∧ f = false := by
  obtain ⟨h1, h2, h3, h4⟩ := h
  have hL : (Wfl F (d + 1)).L 3 = (List.range (F - (d + 1))).map (fun (j : Nat) => (⟨((d + 1 : Nat) : Int) + j + 1, 1000, 0⟩ : Fl)) := by simp [Wfl]
  rw [hL] at h1 h2 h3 h4
  have e : i = 0 := by
    rcases Nat.eq_zero_or_pos i with h | h
    · exact h
    · have h5 := h2 _ (List.mem_take_iff_getElem.2 ⟨0, by omega, rfl⟩)
      simp at h5
      omega
  subst e
  refine ⟨rfl, ?_⟩
  cases f
  · rfl
  · obtain ⟨a, b⟩ := h4.1 rfl
    simp at b
    omega
theorem wfl_step {F d : Nat} (hd : d < F) (hF : F ≤ 20) : (Wfl F (d + 1)).wantAt 3 ((d : Nat) + 1) 1000 0 false = (0, Wfl F d) := by
  have h1 : ¬ ((Wfl F (d + 1)).most ≤ (Wfl F (d + 1)).known) := by show ¬ ((20 : Int) ≤ (F - (d + 1) : Nat)); omega
  have hL : (Wfl F (d + 1)).L 3 = (List.range (F - (d + 1))).map (fun (j : Nat) => (⟨((d + 1 : Nat) : Int) + j + 1, 1000, 0⟩ : Fl)) := by simp [Wfl]
  simp only [Ps.wantAt, if_neg h1, Bool.false_eq_true, if_false, hL]
  unfold Wfl
  congr 2
  · show ((F - (d + 1) : Nat) : Int) + 1 = (F - d : Nat)
    omega
  · funext q
    unfold upd
    by_cases hq : q = 3
    · subst hq
      rw [if_pos rfl, if_pos rfl]
      unfold inst
      rw [List.take_zero, List.drop_zero, List.nil_append, show F - d = (F - (d + 1)) + 1 by omega, List.range_succ_eq_map, List.map_cons, List.map_map, List.singleton_append]
      refine List.cons_eq_cons.2 ⟨?_, List.map_congr_left fun j _ => ?_⟩
      · rw [Fl.mk.injEq]
        exact ⟨by show ((d : Nat) : Int) + 1 = (d : Int) + ((0 : Nat) : Int) + 1; omega, rfl, rfl⟩
      · show Fl.mk _ _ _ = Fl.mk _ _ _
        congr 1
        show ((d + 1 : Nat) : Int) + (j : Int) + 1 = (d : Int) + ((j + 1 : Nat) : Int) + 1
        omega
    · rw [if_neg hq, if_neg hq]
      show (if q = 3 then _ else _) = _
      rw [if_neg hq]
theorem flr_len (F i : Nat) : (flr F i).length = F := by simp [flr]
theorem flr_get {F i j : Nat} (h : j < F) : (flr F i)[j]? = some ⟨j + 1, 1000 - got F i j, got F i j⟩ := by
  unfold flr
  simp [h]
theorem got_small {F i j : Nat} (hi : i ≤ 200) : got F i j ≤ 201 := by
  unfold got
  have := Nat.div_le_self i F
  split <;> omega
theorem flr_pick {F i : Nat} (h1 : 1 ≤ F) (hi : i ≤ 200) : pick ((Flst F i).L 3) ((Flst F i).Z 3) = some (i % F) := by
  have hm := Nat.mod_lt i h1
  have hL : (Flst F i).L 3 = flr F i := by simp [Flst]
  have hZ : (Flst F i).Z 3 = (if i = 0 then 0 else if i % F = 0 then (F : Int) else (i % F : Nat)) := by simp [Flst]
  have hw : ∀ j, (h : j < (flr F i).length) → (flr F i)[j] = ⟨j + 1, 1000 - got F i j, got F i j⟩ := fun j h => by
    have h2 := flr_get (i := i) (show j < F by rw [← flr_len F i]; exact h)
    rw [List.getElem?_eq_getElem h] at h2
    injection h2
  rw [hL, hZ]
  have hln := flr_len F i
  by_cases h0 : i ≠ 0 ∧ i % F = 0
  · rw [if_neg h0.1, if_pos h0.2, h0.2]
    have e1 : (flr F i).findIdx? (fun y => decide ((F : Int) < y.id) && decide (0 < y.wt)) = none := by
      rw [List.findIdx?_eq_none_iff]
      intro x hx
      obtain ⟨j, hj, rfl⟩ := List.getElem_of_mem hx
      rw [hw j hj]
      have : decide ((F : Int) < (j : Int) + 1) = false := decide_eq_false (by omega)
      simp [this]
    unfold pick
    rw [e1, Option.none_or]
    rw [List.findIdx?_eq_some_iff_getElem]
    refine ⟨by omega, ?_, fun j hj => by omega⟩
    rw [hw 0 (by omega)]
    have := got_small (F := F) (j := 0) hi
    refine decide_eq_true ?_
    show (0 : Int) < 1000 - (got F i 0 : Nat)
    omega
  · refine pick_two ?_
    rw [List.findIdx?_eq_some_iff_getElem]
    have hz : (if i = 0 then (0 : Int) else if i % F = 0 then (F : Int) else (i % F : Nat)) = (i % F : Nat) := by
      by_cases hz : i = 0
      · subst hz; simp
      · rw [if_neg hz, if_neg (fun h => h0 ⟨hz, h⟩)]
    rw [hz]
    refine ⟨by omega, ?_, fun j hj => ?_⟩
    · rw [hw (i % F) (by omega)]
      have := got_small (F := F) (j := i % F) hi
      rw [Bool.and_eq_true]
      refine ⟨decide_eq_true ?_, decide_eq_true ?_⟩
      · show ((i % F : Nat) : Int) < (i % F : Nat) + 1
        omega
      · show (0 : Int) < 1000 - (got F i (i % F) : Nat)
        omega
    · rw [hw j (by omega)]
      have : decide (((i % F : Nat) : Int) < (j : Int) + 1) = false := decide_eq_false (by omega)
      rw [this]; simp
theorem flr_next {F i : Nat} : ∃ k0, k0 < 8 ∧ (Flst F i).turn k0 = 3 ∧ ∀ j, j < k0 → (Flst F i).idle j := by
  have key : ∀ k0 t, (Flst F i).last = (t : Nat) → (t + k0) % 8 = 3 → (∀ j, j < k0 → (t + j) % 8 ≠ 3) → (Flst F i).turn k0 = 3 ∧ ∀ j, j < k0 → (Flst F i).idle j := by
    intro k0 t ht h3 hj
    refine ⟨by unfold Ps.turn; rw [ht]; simpa using h3, fun j hlt => ?_⟩
    unfold Ps.idle
    have e : (Flst F i).turn j ≠ 3 := by unfold Ps.turn; rw [ht]; simpa using hj j hlt
    have : (Flst F i).L ((Flst F i).turn j) = [] := if_neg e
    rw [this]; rfl
  by_cases hi : i = 0
  · exact ⟨3, by decide, key 3 0 (by show (if i = 0 then (0 : Int) else 4) = _; rw [if_pos hi]; rfl) rfl (fun j hj => by omega)⟩
  · exact ⟨7, by decide, key 7 4 (by show (if i = 0 then (0 : Int) else 4) = _; rw [if_neg hi]; rfl) rfl (fun j hj => by omega)⟩
theorem flr_step {F i : Nat} (h1 : 1 ≤ F) : (Flst F i).serve 3 (i % F) ⟨(i % F : Nat) + 1, 1000 - (i / F : Nat), (i / F : Nat)⟩ = Flst F (i + 1) := by
  have hm := Nat.mod_lt i h1
  have hg : got F i (i % F) = i / F := by unfold got; rw [if_neg (Nat.lt_irrefl _)]; omega
  have hL : (Flst F i).L 3 = flr F i := by simp [Flst]
  unfold Ps.serve
  rw [hL]
  show Ps.mk _ _ _ _ _ = Ps.mk _ _ _ _ _
  congr 1
  · funext q
    by_cases hq : q = 3
    · subst hq
      rw [upd_same]
      show _ = (if (3 : Nat) = 3 then flr F (i + 1) else [])
      rw [if_pos (rfl : (3 : Nat) = 3)]
      refine List.ext_getElem? fun j => ?_
      rw [List.getElem?_set]
      by_cases hj : i % F = j
      · subst hj
        rw [if_pos rfl, if_pos (by rw [flr_len]; exact hm), flr_get hm, got_step hm, if_pos rfl, hg]
        generalize i / F = r
        generalize i % F = m
        refine congrArg some ?_
        rw [Fl.mk.injEq]
        refine ⟨rfl, ?_, ?_⟩
        · dsimp only; omega
        · dsimp only; omega
      · rw [if_neg hj]
        by_cases h2 : j < F
        · rw [flr_get h2, flr_get h2, got_step h2, if_neg (fun e => hj e.symm)]; rfl
        · rw [List.getElem?_eq_none (by rw [flr_len]; omega), List.getElem?_eq_none (by rw [flr_len]; omega)]
    · rw [upd_other _ _ hq]
      show (if q = 3 then _ else _) = _
      rw [if_neg hq, if_neg hq]
  · funext q
    by_cases hq : q = 3
    · subst hq
      rw [upd_same, if_pos rfl, if_neg (Nat.succ_ne_zero i)]
      rcases step_div (i := i) h1 with ⟨h, _, h2⟩ | ⟨h, _, h2⟩
      · rw [h2, if_neg (Nat.succ_ne_zero _)]
        generalize i % F = m
        dsimp only; omega
      · rw [h2, if_pos rfl]
        dsimp only
        have : ((i % F : Nat) : Int) + 1 = F := by
          generalize i % F = m at *
          omega
        exact this
    · rw [upd_other _ _ hq]
      show (if q = 3 then _ else _) = _
      rw [if_neg hq, if_neg hq]
/-- behind the drop -/
structure Dr (s : Ps) (F d : Nat) (lo : Int) : Prop where
  o : ∀ p, p ≠ 3 → s.L p = []
  n : (s.L 3).length + 1 = F
  w : ∀ x ∈ s.L 3, lo ≤ x.wt ∧ x.id ≠ (d : Int)
theorem dr_start {F i d : Nat} (hi : i ≤ 200) (hd : 1 ≤ d ∧ d ≤ F) : Dr ((Flst F i).dropAt 3 (d - 1) true) F d 799 := by
  have hL : (Flst F i).L 3 = flr F i := by simp [Flst]
  have e : ((Flst F i).dropAt 3 (d - 1) true).L = upd (Flst F i).L 3 ((flr F i).take (d - 1) ++ (flr F i).drop (d - 1 + 1)) := by
    unfold Ps.dropAt; rw [if_pos rfl, hL]
  have hln := flr_len F i
  refine ⟨fun p hp => ?_, ?_, fun x hx => ?_⟩
  · rw [e, upd_other _ _ hp]; exact if_neg hp
  · rw [e, upd_same, List.length_append, List.length_take, List.length_drop]; omega
  · rw [e, upd_same, List.mem_append] at hx
    have key : ∀ j, (h : j < (flr F i).length) → j ≠ d - 1 → 799 ≤ (flr F i)[j].wt ∧ (flr F i)[j].id ≠ (d : Int) := by
      intro j h hj
      have h2 := flr_get (i := i) (show j < F by omega)
      rw [List.getElem?_eq_getElem h] at h2
      injection h2 with h2
      rw [h2]
      have := got_small (F := F) (j := j) hi
      refine ⟨?_, ?_⟩
      · show (799 : Int) ≤ 1000 - (got F i j : Nat); omega
      · show ((j : Nat) : Int) + 1 ≠ d; omega
    rcases hx with hx | hx
    · obtain ⟨j, hj, rfl⟩ := List.mem_take_iff_getElem.1 hx
      exact key j (by omega) (by omega)
    · obtain ⟨j, hj, rfl⟩ := List.mem_drop_iff_getElem.1 hx
      exact key _ (by omega) (by omega)
theorem flr_find {F i d j : Nat} {f : Bool} (hd : 1 ≤ d ∧ d ≤ F) (h : Fnd ((Flst F i).L 3) (d : Int) j f) : j = d - 1 ∧ f = true := by
  have hL : (Flst F i).L 3 = flr F i := by simp [Flst]
  rw [hL] at h
  have hln := flr_len F i
  have hw : ∀ j, (h : j < (flr F i).length) → (flr F i)[j].id = (j : Int) + 1 := fun j h => by
    have h2 := flr_get (i := i) (show j < F by omega)
    rw [List.getElem?_eq_getElem h] at h2
    injection h2 with h2
    rw [h2]
  have hf : Fnd (flr F i) (d : Int) (d - 1) true := by
    refine ⟨by omega, fun y hy => ?_, fun y hy => ?_, ⟨fun _ => ⟨by omega, by rw [hw _ (by omega)]; omega⟩, fun _ => rfl⟩⟩
    · obtain ⟨j, hj, rfl⟩ := List.mem_take_iff_getElem.1 hy
      rw [hw _ (by omega)]; omega
    · obtain ⟨j, hj, rfl⟩ := List.mem_drop_iff_getElem.1 hy
      rw [hw _ (by omega)]; omega
  exact fnd_one h hf
theorem pick_any {l : List Fl} (Z : Int) (h0 : l ≠ []) (h : ∀ x ∈ l, 0 < x.wt) : ∃ i, pick l Z = some i := by
  unfold pick
  cases l with
  | nil => exact absurd rfl h0
  | cons x l =>
    have hx := h x (List.mem_cons_self ..)
    cases hq : List.findIdx? (fun y => decide (Z < y.id) && decide (0 < y.wt)) (x :: l) with
    | some i => exact ⟨i, rfl⟩
    | none =>
      refine ⟨0, ?_⟩
      rw [Option.none_or, List.findIdx?_cons]
      simp [hx]
theorem dr_serve {s : Ps} {F d p i : Nat} {lo : Int} {x : Fl} (h : Dr s F d lo) (hpi : pick (s.L p) (s.Z p) = some i) (hx : (s.L p)[i]? = some x) : x.id ≠ (d : Int) ∧ Dr (s.serve p i x) F d (lo - 1) := by
  obtain ⟨hi, hx⟩ := List.getElem?_eq_some_iff.1 hx
  have hp3 : p = 3 := by
    refine Decidable.byContradiction fun hp => ?_
    have := h.o p hp
    rw [this] at hi
    simp at hi
  subst hp3
  have hxm := h.w x (by rw [← hx]; exact List.getElem_mem hi)
  refine ⟨hxm.2, fun q hq => ?_, ?_, fun y hy => ?_⟩
  · show upd s.L 3 _ q = []
    rw [upd_other _ _ hq]; exact h.o q hq
  · show (upd s.L 3 ((s.L 3).set i ⟨x.id, x.wt - 1, x.pl + 1⟩) 3).length + 1 = F
    rw [upd_same, List.length_set]; exact h.n
  · have hy : y ∈ upd s.L 3 ((s.L 3).set i ⟨x.id, x.wt - 1, x.pl + 1⟩) 3 := hy
    rw [upd_same] at hy
    rcases List.mem_or_eq_of_mem_set hy with hy | rfl
    · have := h.w y hy; exact ⟨by omega, this.2⟩
    · exact ⟨by show lo - 1 ≤ x.wt - 1; omega, hxm.2⟩
/-- whether somebody is served -/
theorem dr_idle {s : Ps} {F d : Nat} {lo : Int} (h : Dr s F d lo) (hl : 0 < lo) (hla : 0 ≤ s.last ∧ s.last ≤ 8) (hid : ∀ k, k < 8 → s.idle k) : F = 1 := by
  have hn := h.n
  refine Decidable.byContradiction fun hF => ?_
  have hk : ∃ k, k < 8 ∧ s.turn k = 3 := by
    refine ⟨(11 - s.last.toNat) % 8, Nat.mod_lt _ (by decide), ?_⟩
    unfold Ps.turn
    omega
  obtain ⟨k, hk, ht⟩ := hk
  have := hid k hk
  unfold Ps.idle at this
  rw [ht] at this
  obtain ⟨i, hi⟩ := pick_any (l := s.L 3) (s.Z 3) (fun e => by rw [e] at hn; simp at hn; omega) (fun x hx => by have := (h.w x hx).1; omega)
  rw [hi] at this
  cases this
theorem dr_none {s : Ps} {F d : Nat} {lo : Int} (h : Dr s F d lo) (hF : F = 1) (p i : Nat) (hpi : pick (s.L p) (s.Z p) = some i) : False := by
  have hn := h.n
  obtain ⟨hi, _⟩ := pick_some hpi
  by_cases hp : p = 3
  · subst hp; omega
  · rw [h.o p hp] at hi; simp at hi
end Go.Proofs.Ytohjnplhmbfjlaa
