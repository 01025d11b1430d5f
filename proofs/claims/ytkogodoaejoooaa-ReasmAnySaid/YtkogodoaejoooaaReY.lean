/- The pieces of a message (chapter 7): plain facts. No walk. -/
import Derived.Test.YtkogodoaejoooaaReQ
namespace Go.Proofs.Ytkogodoaejoooaa
open Go.RowKit

theorem cov_zero : ∀ (L : List Rg) (f t : Int), (∀ x, f ≤ x → x < t → ¬ mem L x) → cov L f t = 0
  | [], _, _, _ => rfl
  | r :: L, f, t, h => by
    have ih := cov_zero L f t (fun x h1 h2 h3 => h x h1 h2 (.inr h3))
    show max (min r.t t - max r.f f) 0 + cov L f t = 0
    rw [ih]
    rcases (by omega : min r.t t ≤ max r.f f ∨ max r.f f < min r.t t) with h1 | h1
    · omega
    · exact absurd (.inl ⟨by omega, by omega⟩) (h (max r.f f) (by omega) (by omega))
theorem total_cov {n : Int} : ∀ {a : Int} {L : List Rg} (b : Int), Asc n a L → b ≤ a → total L = cov L b n
  | _, [], _, _, _ => rfl
  | a, r :: L, b, ⟨h1, h2, h3, h4⟩, hb => by
    have := total_cov b h4 (by omega)
    show r.t - r.f + total L = max (min r.t n - max r.f b) 0 + cov L b n
    rw [this]; omega
/-- where piece k ends -/
def ends (L s k : Nat) : Nat := min ((k + 1) * s) L
def pcs (L s : Nat) : Nat := (L + s - 1) / s
theorem pcs_lt {L s k : Nat} (hs : 0 < s) (hL : 0 < L) : k < pcs L s ↔ k * s < L := by
  unfold pcs
  rw [Nat.lt_iff_add_one_le, Nat.le_div_iff_mul_le hs, Nat.add_mul]
  omega
theorem piece_in {L s k : Nat} (hs : 0 < s) (h : k * s < L) : k * s < ends L s k ∧ ends L s k ≤ L := by
  unfold ends
  rw [Nat.add_mul]
  omega
theorem piece_of {s x : Nat} (hs : 0 < s) : x / s * s ≤ x ∧ x < (x / s + 1) * s := by
  constructor
  · exact Nat.div_mul_le_self x s
  · have := Nat.lt_div_mul_add (a := x) hs
    rw [Nat.add_mul]; omega
theorem piece_one {s x k j : Nat} (hs : 0 < s) (h1 : k * s ≤ x) (h2 : x < (k + 1) * s) (h3 : j * s ≤ x) (h4 : x < (j + 1) * s) : k = j := by
  have e1 : x / s = k := by
    rw [Nat.div_eq_iff hs]; rw [Nat.add_mul] at h2; omega
  have e2 : x / s = j := by
    rw [Nat.div_eq_iff hs]; rw [Nat.add_mul] at h4; omega
  omega
/-- what came, and the set that tells it -/
structure Came (l : List UInt8) (s : Nat) (G : List Bool) (l1 : List UInt8) (st : Is) : Prop where
  ok : st.ok
  tt : st.tot = l.length
  len : l1.length = l.length
  gl : G.length = pcs l.length s
  mm : ∀ x : Nat, mem st.l x ↔ ∃ k, G[k]? = some true ∧ k * s ≤ x ∧ x < ends l.length s k
  same : ∀ x : Nat, mem st.l x → l1[x]? = l[x]?
variable {l l1 : List UInt8} {s : Nat} {G : List Bool} {st : Is}
theorem came_piece (h : Came l s G l1 st) (hs : 0 < s) (hL : 0 < l.length) {k : Nat} (hk : k < G.length) : k * s < l.length ∧ k * s < ends l.length s k ∧ ends l.length s k ≤ l.length := by
  have h1 : k * s < l.length := (pcs_lt hs hL).1 (by rw [← h.gl]; exact hk)
  exact ⟨h1, piece_in hs h1⟩
theorem mem_nat {n a : Int} {L : List Rg} (h : Asc n a L) (ha : 0 ≤ a) {x : Int} (hx : mem L x) : ∃ y : Nat, x = y := ⟨x.toNat, by have := mem_from h hx; omega⟩
/-- what piece k has that is new -/
theorem came_fresh (h : Came l s G l1 st) (hs : 0 < s) (hL : 0 < l.length) {k : Nat} (hk : k < G.length) :
    st.fr (k * s : Nat) (ends l.length s k : Nat) = if G[k] = true then 0 else ((ends l.length s k - k * s : Nat) : Int) := by
  obtain ⟨h1, h2, h3⟩ := came_piece h hs hL hk
  unfold Is.fr
  by_cases hg : G[k] = true
  · rw [if_pos hg]
    refine (fresh_zero h.ok.asc (by omega)).2 (fun x hx1 hx2 => ?_)
    obtain ⟨y, rfl⟩ : ∃ y : Nat, x = y := ⟨x.toNat, by omega⟩
    exact (h.mm y).2 ⟨k, by rw [List.getElem?_eq_getElem hk, hg], by omega, by omega⟩
  · rw [if_neg hg, cov_zero st.l _ _ (fun x hx1 hx2 hm => ?_)]
    · omega
    · obtain ⟨y, rfl⟩ : ∃ y : Nat, x = y := ⟨x.toNat, by omega⟩
      obtain ⟨j, hj, h4, h5⟩ := (h.mm y).1 hm
      have : k = j := piece_one hs (by omega) (by unfold ends at hx2; omega) h4 (by unfold ends at h5; omega)
      subst this
      rw [List.getElem?_eq_getElem hk] at hj
      injection hj with hj
      exact hg hj
def piece (l : List UInt8) (s k : Nat) : List UInt8 := (l.drop (k * s)).take (ends l.length s k - k * s)
theorem piece_len {k : Nat} (h : k * s ≤ ends l.length s k) (h2 : ends l.length s k ≤ l.length) : (piece l s k).length = ends l.length s k - k * s := by
  unfold piece
  rw [List.length_take, List.length_drop]; omega
theorem piece_get {k x : Nat} (h1 : k * s ≤ x) (h2 : x < ends l.length s k) : (piece l s k)[x - k * s]? = l[x]? := by
  unfold piece
  rw [List.getElem?_take, if_pos (by omega), List.getElem?_drop]
  congr 1; omega
theorem came_agr (h : Came l s G l1 st) (hs : 0 < s) (hL : 0 < l.length) {k : Nat} (hk : k < G.length) : Agr st.l l1 (piece l s k) (k * s) := by
  obtain ⟨h1, h2, h3⟩ := came_piece h hs hL hk
  intro x hx h4 h5
  rw [piece_len (by omega) h3] at h5
  rw [h.same x hx, piece_get h4 (by omega)]
theorem over_get {l1 p : List UInt8} {off x : Nat} (h : off + p.length ≤ l1.length) : (over l1 p off)[x]? = if off ≤ x ∧ x < off + p.length then p[x - off]? else l1[x]? := by
  unfold over
  by_cases h1 : x < off
  · rw [if_neg (by omega), List.append_assoc, List.getElem?_append_left (by rw [List.length_take]; omega), List.getElem?_take, if_pos h1]
  · rw [List.append_assoc, List.getElem?_append_right (by rw [List.length_take]; omega), List.length_take, Nat.min_eq_left (by omega)]
    by_cases h2 : x < off + p.length
    · rw [if_pos ⟨by omega, h2⟩, List.getElem?_append_left (by omega)]
    · rw [if_neg (by omega), List.getElem?_append_right (by omega), List.getElem?_drop]
      congr 1; omega
theorem came_step (h : Came l s G l1 st) (hs : 0 < s) (hL : 0 < l.length) {k : Nat} (hk : k < G.length) :
    Came l s (G.set k true) (over l1 (piece l s k) (k * s)) (st.add (k * s : Nat) (ends l.length s k : Nat)) := by
  obtain ⟨h1, h2, h3⟩ := came_piece h hs hL hk
  have hpl := piece_len (l := l) (s := s) (k := k) (by omega) h3
  have hov : k * s + (piece l s k).length ≤ l1.length := by rw [hpl, h.len]; omega
  have hmay : st.may (k * s : Nat) (ends l.length s k : Nat) := ⟨by omega, by omega, by rw [h.tt]; omega⟩
  have hm : ∀ x : Nat, mem (st.add (k * s : Nat) (ends l.length s k : Nat)).l x ↔ mem st.l x ∨ (k * s ≤ x ∧ x < ends l.length s k) := fun x => by
    rw [add_mem h.ok]
    constructor
    · rintro (h4 | ⟨_, h4⟩)
      · exact .inl h4
      · exact .inr (by omega)
    · rintro (h4 | h4)
      · exact .inl h4
      · exact .inr ⟨hmay, by omega⟩
  refine ⟨add_ok h.ok _ _, (add_tot _ _ _).trans h.tt, by rw [over_len hov, h.len], by rw [List.length_set]; exact h.gl, fun x => ?_, fun x hx => ?_⟩
  · rw [hm, h.mm]
    constructor
    · rintro (⟨j, hj, h4⟩ | h4)
      · refine ⟨j, ?_, h4⟩
        rw [List.getElem?_set]
        split
        · rfl
        · exact hj
      · exact ⟨k, by rw [List.getElem?_set_self hk], h4⟩
    · rintro ⟨j, hj, h4⟩
      rw [List.getElem?_set] at hj
      split at hj
      · rename_i he; subst he; exact .inr h4
      · exact .inl ⟨j, hj, h4⟩
  · rw [over_get hov, hpl]
    by_cases h4 : k * s ≤ x ∧ x < k * s + (ends l.length s k - k * s)
    · rw [if_pos h4, piece_get h4.1 (by omega)]
    · rw [if_neg h4]
      rcases (hm x).1 hx with h5 | h5
      · exact h.same x h5
      · omega
/-- all came: each byte is there -/
theorem came_full (h : Came l s G l1 st) (hs : 0 < s) (hL : 0 < l.length) : total st.l = st.tot ↔ G.count false = 0 := by
  have hasc := h.ok.asc
  rw [total_cov 0 hasc (Int.le_refl _)]
  have h0 := h.ok.t0
  have hz := fresh_zero (f := 0) (t := st.tot) hasc h0
  have h1 : cov st.l 0 st.tot = st.tot ↔ ∀ x : Int, 0 ≤ x → x < st.tot → mem st.l x := by
    rw [← hz]; omega
  rw [h1, List.count_eq_zero]
  constructor
  · intro ha hf
    obtain ⟨k, hk, hg⟩ := List.getElem_of_mem hf
    obtain ⟨p1, p2, p3⟩ := came_piece h hs hL hk
    obtain ⟨j, hj, h4, h5⟩ := (h.mm (k * s)).1 (ha _ (by omega) (by rw [h.tt]; omega))
    have : k = j := piece_one hs (Nat.le_refl _) (by rw [Nat.add_mul]; omega) h4 (by unfold ends at h5; omega)
    subst this
    rw [List.getElem?_eq_getElem hk, hg] at hj
    cases hj
  · intro hf x hx1 hx2
    rw [h.tt] at hx2
    obtain ⟨y, rfl⟩ : ∃ y : Nat, x = y := ⟨x.toNat, by omega⟩
    obtain ⟨q1, q2⟩ := piece_of (x := y) hs
    have hk : y / s < G.length := by rw [h.gl, pcs_lt hs hL]; omega
    refine (h.mm y).2 ⟨y / s, ?_, q1, by unfold ends; omega⟩
    rw [List.getElem?_eq_getElem hk]
    cases hg : G[y / s] with
    | true => rfl
    | false => exact absurd (hg ▸ List.getElem_mem hk) hf
theorem came_all (h : Came l s G l1 st) (hs : 0 < s) (hL : 0 < l.length) (hc : G.count false = 0) : l1 = l := by
  have ht := (came_full h hs hL).2 hc
  have hasc := h.ok.asc
  rw [total_cov 0 hasc (Int.le_refl _)] at ht
  have hz := (fresh_zero (f := 0) (t := st.tot) hasc h.ok.t0).1 (by omega)
  refine List.ext_getElem? fun x => ?_
  by_cases hx : x < l.length
  · exact h.same x (hz x (by omega) (by rw [h.tt]; omega))
  · rw [List.getElem?_eq_none (by rw [h.len]; omega), List.getElem?_eq_none (by omega)]
theorem came_start (hl : l.length ≤ 1073741824) : Came l s (List.replicate (pcs l.length s) false) (List.replicate l.length 0) ⟨l.length, []⟩ :=
  ⟨new_ok (by omega) (by omega), rfl, List.length_replicate, List.length_replicate, fun x => ⟨fun h => h.elim, fun ⟨k, hk, _⟩ => by
    rw [List.getElem?_replicate] at hk
    split at hk
    · cases hk
    · cases hk⟩, fun x hx => hx.elim⟩
theorem count_set {G : List Bool} {k : Nat} (hk : k < G.length) : ((G.set k true).count false : Int) = (G.count false : Int) - (if G[k] = true then 0 else 1) := by
  rw [List.count_set hk]
  by_cases hg : G[k] = true
  · rw [if_pos hg, hg]
    simp
  · have hg' : G[k] = false := by simpa using hg
    rw [if_neg hg, hg']
    have : 0 < G.count false := List.count_pos_iff.2 (hg' ▸ List.getElem_mem hk)
    simp
    omega
end Go.Proofs.Ytkogodoaejoooaa
