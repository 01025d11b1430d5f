/- Who waits (chapter 18): the queue and the document's answer side by side. No walk. -/
import Derived.Test.YtohjnplhmbfjlaaPuV
namespace Go.Proofs.Ytohjnplhmbfjlaa

def tag (p : Nat) (x : Fl) : Rf := ⟨p, x.id, x.wt, x.pl⟩
def flat (L : Nat → List Fl) : List Rf := (List.range 8).flatMap (fun p => (L p).map (tag p))
def pre (L : Nat → List Fl) (p : Nat) : List Rf := (List.range p).flatMap (fun p => (L p).map (tag p))
def post (L : Nat → List Fl) (p : Nat) : List Rf := ((List.range 8).drop (p + 1)).flatMap (fun p => (L p).map (tag p))
theorem range_split {p : Nat} (h : p < 8) : List.range 8 = List.range p ++ p :: (List.range 8).drop (p + 1) := by
  rcases eight h with rfl | rfl | rfl | rfl | rfl | rfl | rfl | rfl <;> rfl
theorem flat_split (L : Nat → List Fl) {p : Nat} (h : p < 8) : flat L = pre L p ++ (L p).map (tag p) ++ post L p := by
  unfold flat pre post
  conv => lhs; rw [range_split h]
  rw [List.flatMap_append, List.flatMap_cons, List.append_assoc]
theorem pre_pe {L : Nat → List Fl} {p : Nat} : ∀ x ∈ pre L p, x.pe < p := by
  intro x hx
  unfold pre at hx
  rw [List.mem_flatMap] at hx
  obtain ⟨q, hq, hx⟩ := hx
  rw [List.mem_map] at hx
  obtain ⟨y, _, rfl⟩ := hx
  rw [List.mem_range] at hq
  show ((q : Nat) : Int) < p
  omega
theorem drop_range {p q : Nat} (h : q ∈ (List.range 8).drop (p + 1)) : p < q ∧ q < 8 := by
  rw [List.mem_drop_iff_getElem] at h
  obtain ⟨j, hj, rfl⟩ := h
  rw [List.length_range] at hj
  rw [List.getElem_range]
  omega
theorem post_pe {L : Nat → List Fl} {p : Nat} : ∀ x ∈ post L p, (p : Int) < x.pe ∧ x.pe < 8 := by
  intro x hx
  unfold post at hx
  rw [List.mem_flatMap] at hx
  obtain ⟨q, hq, hx⟩ := hx
  rw [List.mem_map] at hx
  obtain ⟨y, _, rfl⟩ := hx
  have := drop_range hq
  show (p : Int) < ((q : Nat) : Int) ∧ ((q : Nat) : Int) < 8
  omega
theorem flat_congr {f g : Nat → List Rf} : ∀ {l : List Nat}, (∀ x ∈ l, f x = g x) → l.flatMap f = l.flatMap g
  | [], _ => rfl
  | x :: l, h => by
    rw [List.flatMap_cons, List.flatMap_cons, h x (List.mem_cons_self ..), flat_congr (fun y hy => h y (List.mem_cons_of_mem _ hy))]
theorem pre_upd (L : Nat → List Fl) (p : Nat) (l : List Fl) : pre (upd L p l) p = pre L p := by
  unfold pre
  refine flat_congr fun q hq => ?_
  rw [List.mem_range] at hq
  rw [upd_other _ _ (by omega)]
theorem post_upd (L : Nat → List Fl) (p : Nat) (l : List Fl) : post (upd L p l) p = post L p := by
  unfold post
  refine flat_congr fun q hq => ?_
  have := drop_range hq
  rw [upd_other _ _ (by omega)]
theorem flat_upd (L : Nat → List Fl) {p : Nat} (h : p < 8) (l : List Fl) : flat (upd L p l) = pre L p ++ l.map (tag p) ++ post L p := by
  rw [flat_split _ h, pre_upd, post_upd, upd_same]
theorem flat_mem {L : Nat → List Fl} {x : Rf} (h : x ∈ flat L) : ∃ p, p < 8 ∧ ∃ y ∈ L p, x = tag p y := by
  unfold flat at h
  rw [List.mem_flatMap] at h
  obtain ⟨q, hq, hx⟩ := h
  rw [List.mem_map] at hx
  obtain ⟨y, hy, rfl⟩ := hx
  rw [List.mem_range] at hq
  exact ⟨q, hq, y, hy, rfl⟩
theorem flat_cnt (L : Nat → List Fl) : (flat L).length = cnt L := by
  unfold flat cnt
  have e : List.range 8 = [0, 1, 2, 3, 4, 5, 6, 7] := rfl
  rw [e]
  simp only [List.flatMap_cons, List.flatMap_nil, List.length_append, List.length_map, List.length_nil]
  omega
theorem sumR_app (a b : List Rf) : sumR (a ++ b) = sumR a + sumR b := by
  unfold sumR; rw [List.map_append, List.sum_append]
theorem sumR_tag (p : Nat) (l : List Fl) : sumR (l.map (tag p)) = sumW l := by
  unfold sumR sumW; rw [List.map_map]; rfl
theorem flat_sum (L : Nat → List Fl) : sumR (flat L) = sumTo L 8 := by
  unfold flat
  have e : List.range 8 = [0, 1, 2, 3, 4, 5, 6, 7] := rfl
  rw [e]
  simp only [List.flatMap_cons, List.flatMap_nil, sumR_app, sumR_tag, sumTo]
  show _ + (_ + (_ + (_ + (_ + (_ + (_ + (_ + 0))))))) = (0 : Int) + _ + _ + _ + _ + _ + _ + _ + _
  omega
/-- what holds of none of the others -/
theorem idx_mid {A M C : List Rf} {q : Rf → Bool} (hA : ∀ x ∈ A, q x = false) (hC : ∀ x ∈ C, q x = false) : (A ++ M ++ C).findIdx? q = (M.findIdx? q).map (· + A.length) := by
  rw [List.findIdx?_append, List.findIdx?_append, List.findIdx?_eq_none_iff.2 hA, List.findIdx?_eq_none_iff.2 hC]
  simp
theorem is_ne {p id : Int} {x : Rf} (h : x.pe ≠ p) : x.is p id = false := by
  unfold Rf.is; rw [beq_eq_false_iff_ne.2 h, Bool.false_and]
theorem idx_tag {p : Nat} {l : List Fl} {q : Rf → Bool} {q' : Fl → Bool} (h : ∀ x, q (tag p x) = q' x) : (l.map (tag p)).findIdx? q = l.findIdx? q' := by
  rw [List.findIdx?_map]
  congr 1
  funext x
  exact h x
theorem fnd_idx' {l : List Fl} {id : Int} {i : Nat} {f : Bool} (hs : l.Pairwise (fun x y => x.id < y.id)) (h : Fnd l id i f) : l.findIdx? (fun x => x.id == id) = if f = true then some i else none := by
  cases f
  · rw [if_neg (by decide), List.findIdx?_eq_none_iff]
    intro x hx
    refine beq_eq_false_iff_ne.2 fun e => ?_
    rw [← List.take_append_drop i l] at hx
    rcases List.mem_append.1 hx with hx | hx
    · have := h.2.1 x hx; omega
    · have := fnd_gt hs h x hx; omega
  · obtain ⟨hi, he⟩ := h.2.2.2.1 rfl
    rw [if_pos rfl, List.findIdx?_eq_some_iff_getElem]
    refine ⟨hi, beq_iff_eq.2 he, fun j hj => ?_⟩
    have := h.2.1 l[j] (List.mem_take_iff_getElem.2 ⟨j, by omega, rfl⟩)
    simp; omega
structure Sim (s : Ps) (r : Rs) : Prop where
  most : r.most = s.most
  l : r.l = flat s.L
  la : ∀ p, p < 8 → r.la p = s.Z p
  se : ∀ p, p < 8 → r.se p = false → s.Z p = 0
  b0 : r.beg = false → s.last = 0
  b1 : r.beg = true → s.last = r.peer + 1
  pe : 0 ≤ r.peer ∧ r.peer < 8
theorem sim_ok {s : Ps} {r : Rs} {N : Int} (h : Sim s r) (ho : s.ok N) : r.ok N := by
  have hf : ∀ x ∈ r.l, ∃ p, p < 8 ∧ ∃ y ∈ s.L p, x = tag p y := fun x hx => flat_mem (by rw [← h.l]; exact hx)
  refine ⟨?_, fun x hx => ?_, fun x hx => ?_, fun x hx => ?_, h.pe, fun p hp hse => ?_⟩
  · rw [h.l, flat_cnt]; have := ho.kn; have := ho.km; have := ho.m1; omega
  · obtain ⟨p, hp, y, hy, rfl⟩ := hf x hx
    obtain ⟨a, b, c, d, e, f⟩ := ho.fl p hp y hy
    exact ⟨c, d⟩
  · obtain ⟨p, hp, y, hy, rfl⟩ := hf x hx
    obtain ⟨a, b, c, d, e, f⟩ := ho.fl p hp y hy
    exact ⟨e, f⟩
  · obtain ⟨p, hp, y, hy, rfl⟩ := hf x hx
    exact (ho.fl p hp y hy).1
  · rw [h.la p hp]; exact h.se p hp hse
theorem sim_find {s : Ps} {r : Rs} {N id : Int} {p i : Nat} {f : Bool} (h : Sim s r) (ho : s.ok N) (hp : p < 8) (hf : Fnd (s.L p) id i f) : r.l.findIdx? (Rf.is p id) = if f = true then some (i + (pre s.L p).length) else none := by
  rw [h.l, flat_split _ hp, idx_mid (fun x hx => is_ne (by have := pre_pe x hx; omega)) (fun x hx => is_ne (by have := (post_pe x hx).1; omega)),
    idx_tag (q' := fun x => x.id == id) (fun x => by show ((p : Int) == p && x.id == id) = _; simp), fnd_idx' (ho.up p hp) hf]
  cases f <;> simp
theorem sim_out {s : Ps} {r : Rs} {p id : Int} (h : Sim s r) (hp : ¬ (0 ≤ p ∧ p < 8)) : r.l.findIdx? (Rf.is p id) = none := by
  rw [List.findIdx?_eq_none_iff]
  intro x hx
  rw [h.l] at hx
  obtain ⟨q, hq, y, _, rfl⟩ := flat_mem hx
  exact is_ne (by show ((q : Nat) : Int) ≠ p; omega)
theorem mid_get {A C : List Rf} {p : Nat} {l : List Fl} {i : Nat} (hi : i < l.length) (h : i + A.length < (A ++ l.map (tag p) ++ C).length) : (A ++ l.map (tag p) ++ C)[i + A.length] = tag p l[i] := by
  rw [List.getElem_append_left (by rw [List.length_append, List.length_map]; omega), List.getElem_append_right (by omega)]
  simp
theorem mid_set {A C : List Rf} {p : Nat} {l : List Fl} {i : Nat} (hi : i < l.length) (x : Fl) : (A ++ l.map (tag p) ++ C).set (i + A.length) (tag p x) = A ++ (l.set i x).map (tag p) ++ C := by
  rw [List.append_assoc, List.set_append_right _ _ (by omega), Nat.add_sub_cancel, List.set_append_left _ _ (by rw [List.length_map]; exact hi), List.map_set, List.append_assoc]
theorem sim_of {s : Ps} {r : Rs} {N id : Int} {p i : Nat} {f : Bool} (h : Sim s r) (ho : s.ok N) (hp : p < 8) (hf : Fnd (s.L p) id i f) : (rat r.l (r.l.findIdx? (Rf.is p id))).wt = (lk (s.L p) i f).wt ∧ (rat r.l (r.l.findIdx? (Rf.is p id))).ct = (lk (s.L p) i f).pl := by
  rw [sim_find h ho hp hf]
  cases f
  · exact ⟨rfl, rfl⟩
  · obtain ⟨hi, _⟩ := hf.2.2.2.1 rfl
    have hfl := h.l
    rw [flat_split _ hp] at hfl
    have hlt : i + (pre s.L p).length < r.l.length := by
      rw [hfl, List.length_append, List.length_append, List.length_map]; omega
    rw [if_pos rfl, rat_some hlt]
    have e : r.l[i + (pre s.L p).length] = tag p (s.L p)[i] := by
      have : ∀ (m : List Rf) (hm : m = pre s.L p ++ (s.L p).map (tag p) ++ post s.L p) (h : i + (pre s.L p).length < m.length), m[i + (pre s.L p).length] = tag p (s.L p)[i] := by
        rintro m rfl h
        exact mid_get hi h
      exact this _ hfl _
    rw [e]
    have : lk (s.L p) i true = (s.L p)[i] := by unfold lk; rw [if_pos rfl, List.getD_eq_getElem?_getD, List.getElem?_eq_getElem hi]; rfl
    rw [this]
    exact ⟨rfl, rfl⟩
theorem rlt_app {A M C : List Rf} {p id : Int} {k j : Nat} (hk : k ≤ (A ++ M ++ C).length) (h1 : ∀ q, (hq : q < (A ++ M ++ C).length) → q < k → rlt p id (A ++ M ++ C)[q]) (h2 : ∀ h : k < (A ++ M ++ C).length, ¬ rlt p id (A ++ M ++ C)[k])
    (hA : ∀ x ∈ A, rlt p id x) (hC : ∀ x ∈ C, ¬ rlt p id x) (hj : j ≤ M.length) (hM1 : ∀ x ∈ M.take j, rlt p id x) (hM2 : ∀ x ∈ M.drop j, ¬ rlt p id x) : k = j + A.length := by
  have e : A ++ M ++ C = (A ++ M.take j) ++ (M.drop j ++ C) := by
    rw [List.append_assoc, List.append_assoc, ← List.append_assoc (M.take j), List.take_append_drop]
  have hlen : (A ++ M.take j).length = j + A.length := by rw [List.length_append, List.length_take]; omega
  rcases Nat.lt_trichotomy k (j + A.length) with h | h | h
  · have hlt : k < (A ++ M ++ C).length := by rw [List.length_append, List.length_append]; omega
    refine absurd ?_ (h2 hlt)
    have : ∀ (m : List Rf) (hm : m = (A ++ M.take j) ++ (M.drop j ++ C)) (h : k < m.length), rlt p id m[k] := by
      rintro m rfl h'
      rw [List.getElem_append_left (by omega)]
      rcases List.mem_append.1 (List.getElem_mem (l := A ++ M.take j) (n := k) (by omega)) with h | h
      · exact hA _ h
      · exact hM1 _ h
    exact this _ e hlt
  · exact h
  · have hlt : j + A.length < (A ++ M ++ C).length := by omega
    refine absurd (h1 _ hlt h) ?_
    have : ∀ (m : List Rf) (hm : m = (A ++ M.take j) ++ (M.drop j ++ C)) (h : j + A.length < m.length), ¬ rlt p id m[j + A.length] := by
      rintro m rfl h'
      rw [List.getElem_append_right (by omega)]
      rcases List.mem_append.1 (List.getElem_mem (l := M.drop j ++ C) (n := j + A.length - (A ++ M.take j).length) (by rw [List.length_append] at h'; omega)) with h | h
      · exact hM2 _ h
      · exact hC _ h
    exact this _ e hlt
theorem mid_ins {A C : List Rf} {p : Nat} {l : List Fl} {i : Nat} (hi : i ≤ l.length) (x : Fl) : insr (A ++ l.map (tag p) ++ C) (i + A.length) (tag p x) = A ++ (inst l i x).map (tag p) ++ C := by
  unfold insr inst
  have h1 : (A ++ l.map (tag p) ++ C).take (i + A.length) = A ++ (l.take i).map (tag p) := by
    rw [List.append_assoc, Nat.add_comm, List.take_length_add_append, List.take_append_of_le_length (by rw [List.length_map]; exact hi), List.map_take]
  have h2 : (A ++ l.map (tag p) ++ C).drop (i + A.length) = (l.drop i).map (tag p) ++ C := by
    rw [List.append_assoc, Nat.add_comm, List.drop_length_add_append, List.drop_append_of_le_length (by rw [List.length_map]; exact hi), List.map_drop]
  rw [h1, h2]
  simp
theorem mid_del {A C : List Rf} {p : Nat} {l : List Fl} {i : Nat} (hi : i < l.length) : (A ++ l.map (tag p) ++ C).take (i + A.length) ++ (A ++ l.map (tag p) ++ C).drop (i + A.length + 1) = A ++ (l.take i ++ l.drop (i + 1)).map (tag p) ++ C := by
  have h1 : (A ++ l.map (tag p) ++ C).take (i + A.length) = A ++ (l.take i).map (tag p) := by
    rw [List.append_assoc, Nat.add_comm, List.take_length_add_append, List.take_append_of_le_length (by rw [List.length_map]; omega), List.map_take]
  have h2 : (A ++ l.map (tag p) ++ C).drop (i + A.length + 1) = (l.drop (i + 1)).map (tag p) ++ C := by
    rw [show i + A.length + 1 = A.length + (i + 1) by omega, List.append_assoc, List.drop_length_add_append, List.drop_append_of_le_length (by rw [List.length_map]; omega), List.map_drop]
  rw [h1, h2, List.map_append]
  simp
theorem sim_upd {s : Ps} {r : Rs} (h : Sim s r) (k : Int) {p : Nat} (hp : p < 8) (l : List Fl) {l' : List Rf} (hl : l' = pre s.L p ++ l.map (tag p) ++ post s.L p) : Sim { s with known := k, L := upd s.L p l } { r with l := l' } :=
  ⟨h.most, by show l' = flat (upd s.L p l); rw [flat_upd _ hp, hl], h.la, h.se, h.b0, h.b1, h.pe⟩
theorem sim_want {s : Ps} {r : Rs} {N id n c : Int} {p i : Nat} {f : Bool} {l' : List Rf} (h : Sim s r) (ho : s.ok N) (hp : p < 8) (hf : Fnd (s.L p) id i f) (hw : RWant r p id n c l') : c = (s.wantAt p id n i f).1 ∧ Sim (s.wantAt p id n i f).2 { r with l := l' } := by
  have hfl := h.l
  rw [flat_split _ hp] at hfl
  unfold RWant at hw
  rw [sim_find h ho hp hf] at hw
  cases f
  · have hw : (r.most ≤ r.l.length ∧ c = 4 ∧ l' = r.l) ∨ (¬ r.most ≤ r.l.length ∧ c = 0 ∧ ∃ k, k ≤ r.l.length ∧ (∀ q, (hq : q < r.l.length) → q < k → rlt p id r.l[q]) ∧ (∀ h : k < r.l.length, ¬ rlt p id r.l[k]) ∧ l' = insr r.l k ⟨p, id, n, 0⟩) := hw
    have hlen : (r.l.length : Int) = s.known := by rw [h.l, flat_cnt, ho.kn]
    rw [h.most, hlen] at hw
    rcases hw with ⟨h1, rfl, rfl⟩ | ⟨h1, rfl, k, hk, h3, h4, h5⟩
    · have e : s.wantAt p id n i false = (4, s) := by simp [Ps.wantAt, h1]
      rw [e]
      exact ⟨rfl, h⟩
    · have e : s.wantAt p id n i false = (0, { s with known := s.known + 1, L := upd s.L p (inst (s.L p) i ⟨id, n, 0⟩) }) := by simp only [Ps.wantAt, if_neg h1, Bool.false_eq_true, if_false]
      rw [e]
      refine ⟨rfl, sim_upd h _ hp _ ?_⟩
      have hkk : k = i + (pre s.L p).length := by
        have : ∀ (m : List Rf) (hm : m = pre s.L p ++ (s.L p).map (tag p) ++ post s.L p), k ≤ m.length → (∀ q, (hq : q < m.length) → q < k → rlt p id m[q]) → (∀ h : k < m.length, ¬ rlt p id m[k]) → k = i + (pre s.L p).length := by
          rintro m rfl a b c
          refine rlt_app a b c (fun x hx => .inl (pre_pe x hx)) (fun x hx hh => ?_) (by rw [List.length_map]; exact hf.1) (fun x hx => ?_) (fun x hx hh => ?_)
          · have := (post_pe x hx).1
            rcases hh with hh | ⟨hh, _⟩ <;> omega
          · rw [← List.map_take, List.mem_map] at hx
            obtain ⟨y, hy, rfl⟩ := hx
            exact .inr ⟨rfl, hf.2.1 y hy⟩
          · rw [← List.map_drop, List.mem_map] at hx
            obtain ⟨y, hy, rfl⟩ := hx
            have := hf.2.2.1 y hy
            rcases hh with hh | ⟨_, hh⟩
            · exact absurd hh (by show ¬ ((p : Int) < p); omega)
            · exact absurd hh (by show ¬ (y.id < id); omega)
        exact this _ hfl hk h3 h4
      rw [h5, hkk, hfl]
      exact mid_ins hf.1 ⟨id, n, 0⟩
  · obtain ⟨hi, _⟩ := hf.2.2.2.1 rfl
    obtain ⟨rfl, hlt, rfl⟩ : c = 0 ∧ ∃ h : i + (pre s.L p).length < r.l.length, l' = r.l.set (i + (pre s.L p).length) (Rf.more n r.l[i + (pre s.L p).length]) := hw
    have e : s.wantAt p id n i true = (0, { s with L := upd s.L p ((s.L p).set i (Fl.more n (s.L p)[i])) }) := by simp [Ps.wantAt, modi_at hi]
    rw [e]
    refine ⟨rfl, sim_upd h _ hp _ ?_⟩
    have : ∀ (m : List Rf) (hm : m = pre s.L p ++ (s.L p).map (tag p) ++ post s.L p) (h : i + (pre s.L p).length < m.length), m.set (i + (pre s.L p).length) (Rf.more n m[i + (pre s.L p).length]) = pre s.L p ++ ((s.L p).set i (Fl.more n (s.L p)[i])).map (tag p) ++ post s.L p := by
      rintro m rfl h
      rw [mid_get hi h]
      exact mid_set hi (Fl.more n (s.L p)[i])
    exact this _ hfl hlt
theorem sim_drop {s : Ps} {r : Rs} {N id : Int} {p i : Nat} {f : Bool} (h : Sim s r) (ho : s.ok N) (hp : p < 8) (hf : Fnd (s.L p) id i f) : Sim (s.dropAt p i f) (r.drop (r.l.findIdx? (Rf.is p id))) := by
  rw [sim_find h ho hp hf]
  cases f
  · exact h
  · obtain ⟨hi, _⟩ := hf.2.2.2.1 rfl
    have hfl := h.l
    rw [flat_split _ hp] at hfl
    show Sim { s with known := s.known - 1, L := upd s.L p ((s.L p).take i ++ (s.L p).drop (i + 1)) } { r with l := r.l.take (i + (pre s.L p).length) ++ r.l.drop (i + (pre s.L p).length + 1) }
    refine sim_upd h _ hp _ ?_
    rw [hfl]
    exact mid_del hi
theorem sim_turn {s : Ps} {r : Rs} (h : Sim s r) {k : Nat} (hk : k < 8) : r.turn k = s.turn k := by
  unfold Rs.turn Ps.turn
  have hp := h.pe
  cases hb : r.beg
  · rw [if_neg (by decide), h.b0 hb]
    show k = (0 + k) % 8
    omega
  · rw [if_pos rfl, h.b1 hb]
    congr 2
    omega
theorem sim_pick {s : Ps} {r : Rs} (h : Sim s r) {p : Nat} (hp : p < 8) : rpick r.l p (r.la p) = (pick (s.L p) (s.Z p)).map (· + (pre s.L p).length) := by
  unfold rpick pick
  have n1 : ∀ x : Rf, x.pe ≠ p → q1 p (r.la p) x = false := fun x hx => by unfold q1; rw [beq_eq_false_iff_ne.2 hx]; simp
  have n2 : ∀ x : Rf, x.pe ≠ p → q2 p x = false := fun x hx => by unfold q2; rw [beq_eq_false_iff_ne.2 hx]; simp
  have hA : ∀ x ∈ pre s.L p, x.pe ≠ p := fun x hx => by have := pre_pe x hx; omega
  have hC : ∀ x ∈ post s.L p, x.pe ≠ p := fun x hx => by have := (post_pe x hx).1; omega
  rw [h.l, flat_split _ hp, idx_mid (fun x hx => n1 x (hA x hx)) (fun x hx => n1 x (hC x hx)), idx_mid (fun x hx => n2 x (hA x hx)) (fun x hx => n2 x (hC x hx)),
    idx_tag (q' := fun y => decide (s.Z p < y.id) && decide (0 < y.wt)) (fun x => by show ((p : Int) == p && decide (r.la p < x.id) && decide (0 < x.wt)) = _; rw [h.la p hp]; simp),
    idx_tag (q' := fun y => decide (0 < y.wt)) (fun x => by show ((p : Int) == p && decide (0 < x.wt)) = _; simp)]
  cases (s.L p).findIdx? (fun y => decide (s.Z p < y.id) && decide (0 < y.wt)) <;> simp
theorem sim_idle {s : Ps} {r : Rs} (h : Sim s r) {k : Nat} (hk : k < 8) : r.idle k ↔ s.idle k := by
  unfold Rs.idle Ps.idle
  have ht : s.turn k < 8 := Nat.mod_lt _ (by decide)
  rw [sim_turn h hk, sim_pick h ht]
  simp
theorem sim_serve {s : Ps} {r : Rs} {p i : Nat} {x : Fl} (h : Sim s r) (hp : p < 8) (hx : (s.L p)[i]? = some x) : Sim (s.serve p i x) (r.serve p (i + (pre s.L p).length) (tag p x)) := by
  obtain ⟨hi, hx⟩ := List.getElem?_eq_some_iff.1 hx
  have hfl := h.l
  rw [flat_split _ hp] at hfl
  refine ⟨h.most, ?_, fun q hq => ?_, fun q hq hse => ?_, fun hh => (by cases hh), fun _ => rfl, ⟨by show (0 : Int) ≤ (p : Nat); omega, by show ((p : Nat) : Int) < 8; omega⟩⟩
  · show r.l.set (i + (pre s.L p).length) _ = flat (upd s.L p _)
    rw [flat_upd _ hp, hfl]
    exact mid_set hi ⟨x.id, x.wt - 1, x.pl + 1⟩
  · show upd r.la p x.id q = upd s.Z p x.id q
    by_cases hqp : q = p
    · subst hqp; rw [upd_same, upd_same]
    · rw [upd_other _ _ hqp, upd_other _ _ hqp]; exact h.la q hq
  · have hse : upd r.se p true q = false := hse
    show upd s.Z p x.id q = 0
    by_cases hqp : q = p
    · subst hqp; rw [upd_same] at hse; cases hse
    · rw [upd_other _ _ hqp] at hse ⊢; exact h.se q hq hse
theorem sim_get {s : Ps} {r : Rs} {p i : Nat} {x : Fl} (h : Sim s r) (hp : p < 8) (hx : (s.L p)[i]? = some x) : r.l[i + (pre s.L p).length]? = some (tag p x) := by
  obtain ⟨hi, hx⟩ := List.getElem?_eq_some_iff.1 hx
  rw [h.l, flat_split _ hp]
  have hlt : i + (pre s.L p).length < (pre s.L p ++ (s.L p).map (tag p) ++ post s.L p).length := by rw [List.length_append, List.length_append, List.length_map]; omega
  rw [List.getElem?_eq_getElem hlt, mid_get hi, hx]
end Go.Proofs.Ytohjnplhmbfjlaa
