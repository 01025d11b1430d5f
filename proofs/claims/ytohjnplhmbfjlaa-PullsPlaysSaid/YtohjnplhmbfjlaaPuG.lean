/- Who waits (chapter 18): what stays true. No walk. -/
import Derived.Test.YtohjnplhmbfjlaaPuF
namespace Go.Proofs.Ytohjnplhmbfjlaa

theorem fnd_gt {l : List Fl} {id : Int} {i : Nat} (hs : l.Pairwise (fun x y => x.id < y.id)) (h : Fnd l id i false) : ∀ y ∈ l.drop i, id < y.id := by
  intro y hy
  obtain ⟨h1, h2, h3, h4⟩ := h
  rcases Int.lt_or_eq_of_le (h3 y hy) with h | h
  · exact h
  · rw [List.mem_drop_iff_getElem] at hy
    obtain ⟨j, hj, rfl⟩ := hy
    have hi : i < l.length := by omega
    rcases Nat.eq_zero_or_pos j with rfl | hp
    · have := h4.2 ⟨hi, h.symm⟩
      cases this
    · have h5 := List.pairwise_iff_getElem.1 hs i (j + i) hi (by omega) (by omega)
      have h6 := h3 l[i] (by rw [List.mem_drop_iff_getElem]; exact ⟨0, by omega, by simp⟩)
      have h7 : l[i + j] = l[j + i] := by congr 1; omega
      rw [h7] at h
      omega
theorem inst_up {l : List Fl} {x : Fl} {i : Nat} (hs : l.Pairwise (fun x y => x.id < y.id)) (h1 : ∀ y ∈ l.take i, y.id < x.id) (h2 : ∀ y ∈ l.drop i, x.id < y.id) : (inst l i x).Pairwise (fun x y => x.id < y.id) := by
  unfold inst
  rw [List.append_assoc, List.pairwise_append]
  refine ⟨hs.sublist (List.take_sublist _ _), ?_, fun y hy z hz => ?_⟩
  · rw [List.singleton_append, List.pairwise_cons]
    exact ⟨h2, hs.sublist (List.drop_sublist _ _)⟩
  · rw [List.singleton_append, List.mem_cons] at hz
    rcases hz with rfl | hz
    · exact h1 y hy
    · exact Int.lt_trans (h1 y hy) (h2 z hz)
theorem mem_inst {l : List Fl} {x y : Fl} {i : Nat} (h : y ∈ inst l i x) : y = x ∨ y ∈ l := by
  unfold inst at h
  rw [List.append_assoc, List.mem_append, List.singleton_append, List.mem_cons] at h
  rcases h with h | h | h
  · exact .inr (List.mem_of_mem_take h)
  · exact .inl h
  · exact .inr (List.mem_of_mem_drop h)
theorem set_up {l : List Fl} {x : Fl} {i : Nat} (hs : l.Pairwise (fun x y => x.id < y.id)) (hi : i < l.length) (hx : x.id = l[i].id) : (l.set i x).Pairwise (fun x y => x.id < y.id) := by
  rw [List.pairwise_iff_getElem]
  intro a b ha hb hab
  rw [List.length_set] at ha hb
  have h := List.pairwise_iff_getElem.1 hs a b ha hb hab
  rw [List.getElem_set, List.getElem_set]
  split
  · rename_i e; subst e
    split
    · omega
    · rw [hx]; exact h
  · split
    · rename_i e; subst e; rw [hx]; exact h
    · exact h
/-- one peer's flows are others -/
theorem ok_upd {s : Ps} {N N' : Int} (h : s.ok N) {p : Nat} (hp : p < 8) {l : List Fl} {k t : Int} {Z : Nat → Int} (hN : N ≤ N') (h1 : l.Pairwise (fun x y => x.id < y.id)) (h2 : ∀ x ∈ l, FlOk N' x) (hk : k + (s.L p).length = s.known + l.length) (hm : k ≤ s.most) (ht : 0 ≤ t ∧ t ≤ 8) (hz : ∀ q, q < 8 → 0 ≤ Z q ∧ Z q ≤ 1152921504606846976) :
    Ps.ok { most := s.most, known := k, last := t, L := upd s.L p l, Z := Z } N' := by
  refine ⟨fun q hq => ?_, fun q hq => ?_, ?_, h.m0, h.m1, hm, ht, hz⟩
  · show (upd s.L p l q).Pairwise _
    by_cases hqp : q = p
    · subst hqp; rw [upd_same]; exact h1
    · rw [upd_other _ _ hqp]; exact h.up q hq
  · show ∀ x ∈ upd s.L p l q, _
    by_cases hqp : q = p
    · subst hqp; rw [upd_same]; exact h2
    · rw [upd_other _ _ hqp]
      exact fun x hx => by
        obtain ⟨a, b, c, d, e, f⟩ := h.fl q hq x hx
        exact ⟨a, b, c, d, e, by omega⟩
  · show k = cnt (upd s.L p l)
    have h3 := cnt_upd s.L hp l
    have h4 := h.kn
    omega
theorem ok_mono {s : Ps} {N N' : Int} (h : s.ok N) (hN : N ≤ N') : s.ok N' :=
  ⟨h.up, fun q hq x hx => by
    obtain ⟨a, b, c, d, e, f⟩ := h.fl q hq x hx
    exact ⟨a, b, c, d, e, by omega⟩, h.kn, h.m0, h.m1, h.km, h.la, h.z⟩
theorem want_ok {s : Ps} {N id n : Int} {p i : Nat} {f : Bool} (h : s.ok N) (hN : 0 ≤ N) (hp : p < 8) (hw : okWant p id n) (hf : Fnd (s.L p) id i f) : (s.wantAt p id n i f).2.ok N := by
  obtain ⟨_, ⟨w1, w2⟩, w3, w4⟩ := hw
  cases f
  · by_cases hfull : s.most ≤ s.known
    · have e : s.wantAt p id n i false = (4, s) := by simp [Ps.wantAt, hfull]
      rw [e]; exact h
    · have e : s.wantAt p id n i false = (0, { s with known := s.known + 1, L := upd s.L p (inst (s.L p) i ⟨id, n, 0⟩) }) := by simp only [Ps.wantAt, if_neg hfull, Bool.false_eq_true, if_false]
      rw [e]
      refine ok_upd h hp (Int.le_refl N) (inst_up (h.up p hp) hf.2.1 (fnd_gt (h.up p hp) hf)) (fun x hx => ?_) (by rw [inst_len hf.1]; omega) (by omega) h.la h.z
      rcases mem_inst hx with rfl | hx
      · exact ⟨w1, w2, by show (0 : Int) ≤ n; omega, by show n ≤ _; omega, Int.le_refl _, hN⟩
      · exact h.fl p hp x hx
  · obtain ⟨hi, hid⟩ := hf.2.2.2.1 rfl
    have e : s.wantAt p id n i true = (0, { s with L := upd s.L p (modi (s.L p) i (Fl.more n)) }) := by simp [Ps.wantAt]
    rw [e, modi_at hi]
    refine ok_upd h hp (Int.le_refl N) (set_up (h.up p hp) hi rfl) (fun x hx => ?_) (by rw [List.length_set]) h.km h.la h.z
    rcases List.mem_or_eq_of_mem_set hx with hx | rfl
    · exact h.fl p hp x hx
    · obtain ⟨a, b, c, d, e, f⟩ := h.fl p hp _ (List.getElem_mem hi)
      exact ⟨a, b, by show 0 ≤ min _ _; omega, by show min _ _ ≤ _; omega, e, f⟩
theorem serve_ok {s : Ps} {N : Int} {p i : Nat} {x : Fl} (h : s.ok N) (hp : p < 8) (hpi : pick (s.L p) (s.Z p) = some i) (hx : (s.L p)[i]? = some x) : (s.serve p i x).ok (N + 1) := by
  obtain ⟨hi, hw⟩ := pick_some hpi
  rw [List.getElem?_eq_getElem hi] at hx
  injection hx with hx
  have hfx := h.fl p hp _ (List.getElem_mem hi)
  rw [hx] at hw hfx
  obtain ⟨a, b, c, d, e, f⟩ := hfx
  refine ok_upd h hp (by omega) (set_up (h.up p hp) hi (by rw [hx])) (fun y hy => ?_) (by rw [List.length_set]) h.km ⟨by omega, by omega⟩ (fun q hq => ?_)
  · rcases List.mem_or_eq_of_mem_set hy with hy | rfl
    · obtain ⟨a, b, c, d, e, f⟩ := h.fl p hp y hy
      exact ⟨a, b, c, d, e, by omega⟩
    · exact ⟨a, b, by show 0 ≤ x.wt - 1; omega, by show x.wt - 1 ≤ _; omega, by show 0 ≤ x.pl + 1; omega, by show x.pl + 1 ≤ _; omega⟩
  · by_cases hqp : q = p
    · subst hqp; rw [upd_same]; omega
    · rw [upd_other _ _ hqp]; exact h.z q hq
theorem drop_ok {s : Ps} {N id : Int} {p i : Nat} {f : Bool} (h : s.ok N) (hp : p < 8) (hf : Fnd (s.L p) id i f) : (s.dropAt p i f).ok N := by
  cases f
  · exact h
  · obtain ⟨hi, hid⟩ := hf.2.2.2.1 rfl
    have e : s.dropAt p i true = { s with known := s.known - 1, L := upd s.L p ((s.L p).take i ++ (s.L p).drop (i + 1)) } := rfl
    rw [e]
    have hkm := h.km
    refine ok_upd h hp (Int.le_refl N) ?_ (fun x hx => ?_) (by rw [List.length_append, List.length_take, List.length_drop]; omega) (by omega) h.la h.z
    · rw [← List.eraseIdx_eq_take_drop_succ]
      exact (h.up p hp).sublist (List.eraseIdx_sublist _ _)
    · rcases List.mem_append.1 hx with hx | hx
      · exact h.fl p hp x (List.mem_of_mem_take hx)
      · exact h.fl p hp x (List.mem_of_mem_drop hx)
theorem fnd_nil {id : Int} {i : Nat} {f : Bool} (h : Fnd [] id i f) : i = 0 ∧ f = false := by
  obtain ⟨h1, _, _, h4⟩ := h
  refine ⟨by simpa using h1, ?_⟩
  cases f
  · rfl
  · obtain ⟨h, _⟩ := h4.1 rfl
    simp at h
end Go.Proofs.Ytohjnplhmbfjlaa
