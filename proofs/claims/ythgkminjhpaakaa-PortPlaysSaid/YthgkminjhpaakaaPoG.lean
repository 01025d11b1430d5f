/- A port (chapter 13): a tick, for the laws of credits and lines. -/
import Derived.Test.YthgkminjhpaakaaPoLC
import Derived.Test.YthgkminjhpaakaaPoV
namespace Go.Proofs.Ythgkminjhpaakaa
open Go.RowKit

structure Jg (hv now gone : Nat) (p : Pp) : Prop where
  g : gone = min hv ((now + 3) / 4)
  len : p.C.length = hv - gone
  nums : Nums gone p.C
  pn : 0 ≤ p.now ∧ p.now ≤ now
  e : p.pc.e = 4
  n : 0 ≤ p.pc.n ∧ p.pc.n ≤ now
  x : p.pc.x = 4 * gone
theorem Jg.same {hv now gone : Nat} {p : Pp} (h : Jg hv now gone p) (L : Nat → List It) (u : Int) : Jg hv now gone { p with L := L, u := u } := ⟨h.g, h.len, h.nums, h.pn, h.e, h.n, h.x⟩
theorem takeG (b B0 : Nat) (l : Pl) (p : Pp) (hv now gone : Nat) (w : World) (h : Po b B0 l p w) (hJ : Jg hv now gone p) (hh : hv ≤ 30) (hnow : now ≤ 300) (hu : ∀ i x r, i < 8 → p.L i = x :: r → x.sz ≤ p.u) (hu2 : p.u ≤ 1099511627776) : Calls Try.prog 11 #[.pointer (some ⟨b, 0, none⟩), .int .i64 now] w fun e w' =>
    (∃ x p', e = .returned (.tuple #[boxV x, .bool true]) ∧ PoPost b B0 l p' w w' ∧ x.kind = 11 ∧ (now : Int) = 4 * gone ∧ x.num = gone ∧ p'.L = p.L ∧ p'.u = p.u ∧ Jg hv (now + 1) (gone + 1) p') ∨
    (∃ p1, TakeQ b B0 l p1 w e w' ∧ p1.L = p.L ∧ p1.u = p.u ∧ Jg hv (now + 1) gone p1) := by
  have ht : max p.now (now : Int) = now := by have := hJ.pn; omega
  have hg := hJ.g
  have hlen := hJ.len
  have hdue : p.pc.due now = decide (4 * gone ≤ now) := by
    unfold Pc.due
    rw [hJ.x, tick_now hJ.n.2 (by omega)]
    simp only [decide_eq_decide]
    omega
  rcases Nat.eq_zero_or_pos p.C.length with hC | hC
  · refine (take_q0 b B0 l p now now w h hC ht hu hu2).mono ?_
    intro e w' hq
    exact .inr ⟨_, hq, rfl, rfl, by omega, hlen, hJ.nums, by show 0 ≤ (now : Int) ∧ (now : Int) ≤ _; omega, hJ.e, by have := hJ.n; show 0 ≤ p.pc.n ∧ p.pc.n ≤ _; omega, hJ.x⟩
  · by_cases hd : 4 * gone ≤ now
    · obtain ⟨x, r, hxr⟩ : ∃ x r, p.C = x :: r := List.exists_cons_of_ne_nil (by intro hh; rw [hh] at hC; cases hC)
      have hdd : p.pc.due now = true := by rw [hdue]; exact decide_eq_true hd
      obtain ⟨hk, hn⟩ := hJ.nums 0 x (by rw [hxr]; rfl)
      refine (take_cred b B0 l p x r now now w h hxr ht hdd (by omega)).mono ?_
      rintro e w' ⟨rfl, hp⟩
      rw [go_yes hJ.n.2 (by omega) hdd] at hp
      refine .inl ⟨x, _, rfl, hp, hk, by omega, by rw [hn]; simp, rfl, rfl, ?_, ?_, fun j y hj => ?_, ?_, hJ.e, ?_, ?_⟩
      · omega
      · show r.length = _
        rw [hxr] at hlen
        rw [List.length_cons] at hlen
        omega
      · have := hJ.nums (j + 1) y (by rw [hxr]; exact hj)
        refine ⟨this.1, ?_⟩
        rw [this.2]
        push_cast
        omega
      · show 0 ≤ (now : Int) ∧ (now : Int) ≤ _
        omega
      · show 0 ≤ (now : Int) ∧ (now : Int) ≤ _
        omega
      · show Pc.x ⟨p.pc.e, now, now, true⟩ = _
        unfold Pc.x
        rw [if_pos rfl]
        show (now : Int) + p.pc.e = _
        rw [hJ.e]
        push_cast
        omega
    · have hdd : p.pc.due now = false := by rw [hdue]; exact decide_eq_false hd
      refine (take_q1 b B0 l p now now w h hC hdd ht hu hu2).mono ?_
      intro e w' hq
      have hgo := go_no hJ.n.2 (by omega) hdd
      exact .inr ⟨_, hq, rfl, rfl, by omega, hlen, hJ.nums, by show 0 ≤ (now : Int) ∧ (now : Int) ≤ _; omega, by rw [hgo]; exact hJ.e, by rw [hgo]; show 0 ≤ (now : Int) ∧ (now : Int) ≤ _; omega, by rw [hgo]; exact hJ.x⟩
theorem wfrom_pop {L : Nat → List It} {i : Nat} {x : It} {r : List It} (hi : i < 8) (h : L i = x :: r) (ha : ∀ j, i < j → j < 8 → L j = []) : wfrom L 8 = x :: wfrom (upd L i r) 8 := by
  rcases eight hi with rfl | rfl | rfl | rfl | rfl | rfl | rfl | rfl
  · simp [wfrom, upd, h, ha 1, ha 2, ha 3, ha 4, ha 5, ha 6, ha 7]
  · simp [wfrom, upd, h, ha 2, ha 3, ha 4, ha 5, ha 6, ha 7]
  · simp [wfrom, upd, h, ha 3, ha 4, ha 5, ha 6, ha 7]
  · simp [wfrom, upd, h, ha 4, ha 5, ha 6, ha 7]
  · simp [wfrom, upd, h, ha 5, ha 6, ha 7]
  · simp [wfrom, upd, h, ha 6, ha 7]
  · simp [wfrom, upd, h, ha 7]
  · simp [wfrom, upd, h]
theorem wfrom_push (L : Nat → List It) {i : Nat} (x : It) (hi : i < 8) : (wfrom (upd L i (L i ++ [x])) 8).length = (wfrom L 8).length + 1 := by
  rcases eight hi with rfl | rfl | rfl | rfl | rfl | rfl | rfl | rfl
  all_goals
    simp [wfrom, upd]
    try omega
theorem wfrom_nil {L : Nat → List It} (h : ∀ i, i < 8 → L i = []) : wfrom L 8 = [] := by
  simp [wfrom, h]
theorem wfrom_mem {L : Nat → List It} {i : Nat} {x : It} (hi : i < 8) (h : x ∈ L i) : x ∈ wfrom L 8 := by
  rcases eight hi with rfl | rfl | rfl | rfl | rfl | rfl | rfl | rfl
  all_goals simp [wfrom, h]
theorem wfrom_of {L : Nat → List It} {x : It} (h : x ∈ wfrom L 8) : ∃ i, i < 8 ∧ x ∈ L i := by
  simp [wfrom] at h
  rcases h with h | h | h | h | h | h | h | h
  · exact ⟨7, by decide, h⟩
  · exact ⟨6, by decide, h⟩
  · exact ⟨5, by decide, h⟩
  · exact ⟨4, by decide, h⟩
  · exact ⟨3, by decide, h⟩
  · exact ⟨2, by decide, h⟩
  · exact ⟨1, by decide, h⟩
  · exact ⟨0, by decide, h⟩
theorem line_le {L : Nat → List It} {i : Nat} (hi : i < 8) : (L i).length ≤ (wfrom L 8).length := by
  rcases eight hi with rfl | rfl | rfl | rfl | rfl | rfl | rfl | rfl
  all_goals
    simp [wfrom]
    try omega
/-- higher, or in the same line earlier -/
def Bef (x y : It) : Prop := y.prio < x.prio ∨ (y.prio = x.prio ∧ x.num < y.num)
theorem wfrom_sorted {L : Nat → List It} (hp : ∀ i, i < 8 → ∀ x ∈ L i, x.prio = i) (hs : ∀ i, i < 8 → (L i).Pairwise fun x y => x.num < y.num) : ∀ k, k ≤ 8 → (wfrom L k).Pairwise Bef ∧ ∀ x ∈ wfrom L k, (8 : Int) - k ≤ x.prio
  | 0, _ => ⟨List.Pairwise.nil, fun x hx => by cases hx⟩
  | k + 1, hk => by
    obtain ⟨h1, h2⟩ := wfrom_sorted hp hs k (by omega)
    rw [wfrom]
    refine ⟨List.pairwise_append.2 ⟨h1, ?_, ?_⟩, ?_⟩
    · have hpp := hp (7 - k) (by omega)
      refine (hs (7 - k) (by omega)).imp_of_mem ?_
      intro x y hx hy hxy
      exact .inr ⟨by rw [hpp x hx, hpp y hy], hxy⟩
    · intro x hx y hy
      have h3 := h2 x hx
      have h4 := hp (7 - k) (by omega) y hy
      exact .inl (by omega)
    · intro x hx
      rcases List.mem_append.1 hx with hx | hx
      · have := h2 x hx; push_cast; omega
      · have := hp (7 - k) (by omega) x hx; push_cast; omega
end Go.Proofs.Ythgkminjhpaakaa
