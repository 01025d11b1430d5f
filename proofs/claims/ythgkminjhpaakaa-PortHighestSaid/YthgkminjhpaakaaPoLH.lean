/- PortHighest: the walk. -/
import Derived.Test.YthgkminjhpaakaaPoG
import Derived.Test.YthgkminjhpaakaaAlike
namespace Go.Proofs.Ythgkminjhpaakaa
open Go.RowKit

def aq (q i : Int) : It := ⟨5, 0, 1, q, 0, 0, 0, 0, i, none, 0, 0, 0, []⟩
theorem aq_sz (q i : Int) : (aq q i).sz = 26 := sz_head (by decide : (5 : Int) ≠ 1)
theorem clamp8 {q : Nat} (h : q < 8) : clampI q 0 7 = q := by
  unfold clampI
  split
  · omega
  · split <;> omega
structure Jp (i : Nat) (L : Nat → List It) : Prop where
  kinds : ∀ q, q < 8 → ∀ x ∈ L q, x.kind = 5 ∧ x.prio = q ∧ 0 ≤ x.num ∧ x.num < i
  sorted : ∀ q, q < 8 → (L q).Pairwise fun x y => x.num < y.num
  len : (wfrom L 8).length = i
theorem Jp.step {i : Nat} {L : Nat → List It} (h : Jp i L) {q : Nat} (hq : q < 8) {y : It} (h1 : y.kind = 5) (h2 : y.prio = q) (h3 : y.num = i) : Jp (i + 1) (upd L q (L q ++ [y])) := by
  refine ⟨fun j hj x hx => ?_, fun j hj => ?_, ?_⟩
  · by_cases hjq : j = q
    · subst hjq
      rw [upd_same] at hx
      rcases List.mem_append.1 hx with hx | hx
      · have := h.kinds j hj x hx
        exact ⟨this.1, this.2.1, this.2.2.1, by omega⟩
      · rw [List.mem_singleton.1 hx]
        exact ⟨h1, h2, by omega, by omega⟩
    · rw [upd_other _ _ hjq] at hx
      have := h.kinds j hj x hx
      exact ⟨this.1, this.2.1, this.2.2.1, by omega⟩
  · by_cases hjq : j = q
    · subst hjq
      rw [upd_same]
      refine List.pairwise_append.2 ⟨h.sorted j hj, List.pairwise_singleton _ _, fun x hx z hz => ?_⟩
      rw [List.mem_singleton.1 hz, h3]
      exact (h.kinds j hj x hx).2.2.2
    · rw [upd_other _ _ hjq]
      exact h.sorted j hj
  · rw [wfrom_push _ _ hq, h.len]
structure J1 (i k : Nat) (p : Pp) : Prop where
  most : p.most = 20
  room : p.room = 1048576
  now : p.now = 0
  pc : p.pc = ⟨4, 0, 0, false⟩
  cl : p.C.length = k
  cn : Nums 0 p.C
  u : p.u = 26 * i
  L : Jp i p.L
structure Jh (n hv now gone : Nat) (last at' : Int) (p : Pp) : Prop where
  jg : Jg hv now gone p
  sorted : (wfrom p.L 8).Pairwise Bef
  kinds : ∀ x ∈ wfrom p.L 8, x.kind = 5
  len : (wfrom p.L 8).length = n - (now - gone)
  u : p.u = 26 * (wfrom p.L 8).length
  lt : ∀ x ∈ wfrom p.L 8, x.prio < last ∨ (x.prio = last ∧ at' < x.num)
theorem Jh.first {n hv : Nat} {p : Pp} (h : J1 n hv p) : Jh n hv 0 0 8 (-1) p := by
  have hs := wfrom_sorted (L := p.L) (fun i hi x hx => (h.L.kinds i hi x hx).2.1) h.L.sorted 8 (Nat.le_refl _)
  refine ⟨⟨by omega, by rw [h.cl]; omega, h.cn, by rw [h.now]; decide, by rw [h.pc], by rw [h.pc]; decide, by rw [h.pc]; rfl⟩, hs.1, fun x hx => ?_, by rw [h.L.len]; omega, by rw [h.L.len]; exact h.u, fun x hx => ?_⟩
  · obtain ⟨i, hi, hx⟩ := wfrom_of hx
    exact (h.L.kinds i hi x hx).1
  · obtain ⟨i, hi, hx⟩ := wfrom_of hx
    have := (h.L.kinds i hi x hx).2.1
    exact .inl (by omega)
theorem takeH (b B0 : Nat) (l : Pl) (p : Pp) (n hv now gone : Nat) (last at' : Int) (w : World) (h : Po b B0 l p w) (hJ : Jh n hv now gone last at' p) (hh : hv ≤ 30) (hnow : now ≤ 300) (hn : n ≤ 60) : Calls Try.prog 11 #[.pointer (some ⟨b, 0, none⟩), .int .i64 now] w fun e w' => ∃ x ok p', e = .returned (.tuple #[boxV x, .bool ok]) ∧ PoPost b B0 l p' w w' ∧
    ((ok = true ∧ x.kind = 11 ∧ (now : Int) = 4 * gone ∧ x.num = gone ∧ Jh n hv (now + 1) (gone + 1) last at' p') ∨
     (ok = true ∧ x.kind = 5 ∧ (x.prio < last ∨ (x.prio = last ∧ at' < x.num)) ∧ Jh n hv (now + 1) gone x.prio x.num p') ∨
     (ok = false ∧ Jh n hv (now + 1) gone last at' p')) := by
  have hgn : gone ≤ now := by have := hJ.jg.g; omega
  have hlen := hJ.len
  have hu : ∀ i x r, i < 8 → p.L i = x :: r → x.sz ≤ p.u := fun i x r hi hL => by
    have hm : x ∈ wfrom p.L 8 := wfrom_mem hi (by rw [hL]; exact List.mem_cons_self)
    have hk := hJ.kinds x hm
    rw [sz_head (by rw [hk]; decide), hJ.u]
    have : 0 < (wfrom p.L 8).length := List.length_pos_of_mem hm
    omega
  refine (takeG b B0 l p hv now gone w h hJ.jg hh hnow hu (by have := hJ.u; omega)).mono ?_
  rintro e w' (⟨x, p', rfl, hp, hk, h4, hx, hL, hu', hj⟩ | ⟨p1, hq, hL, hu', hj⟩)
  · exact ⟨x, true, p', rfl, hp, .inl ⟨rfl, hk, h4, hx, hj, by rw [hL]; exact hJ.sorted, by rw [hL]; exact hJ.kinds, by rw [hL, hlen]; omega, by rw [hL, hu']; exact hJ.u, by rw [hL]; exact hJ.lt⟩⟩
  · rcases hq with ⟨he, hnone, hp⟩ | ⟨i, x, r, hi, hLi, hab, he, hp⟩
    · have h0 : (wfrom p.L 8).length = 0 := by rw [← hL, wfrom_nil hnone]; rfl
      exact ⟨it0, false, p1, he, hp, .inr (.inr ⟨rfl, hj, by rw [hL]; exact hJ.sorted, by rw [hL]; exact hJ.kinds, by rw [hL]; omega, by rw [hL, hu']; exact hJ.u, by rw [hL]; exact hJ.lt⟩)⟩
    · have hpop := wfrom_pop hi hLi hab
      rw [hL] at hpop
      have hm : x ∈ wfrom p.L 8 := by rw [hpop]; exact List.mem_cons_self
      have hsub : ∀ z ∈ wfrom (upd p.L i r) 8, z ∈ wfrom p.L 8 := fun z hz => by rw [hpop]; exact List.mem_cons_of_mem _ hz
      have hs := hJ.sorted
      rw [hpop] at hs
      obtain ⟨hs1, hs2⟩ := List.pairwise_cons.1 hs
      have hll : (wfrom p.L 8).length = (wfrom (upd p.L i r) 8).length + 1 := by rw [hpop, List.length_cons]
      have hk := hJ.kinds x hm
      refine ⟨x, true, _, he, hp, .inr (.inl ⟨rfl, hk, hJ.lt x hm, hj.same _ _, ?_, ?_, ?_, ?_, ?_⟩)⟩
      · show (wfrom (upd p1.L i r) 8).Pairwise Bef
        rw [hL]; exact hs2
      · show ∀ z ∈ wfrom (upd p1.L i r) 8, _
        rw [hL]; exact fun z hz => hJ.kinds z (hsub z hz)
      · show (wfrom (upd p1.L i r) 8).length = _
        rw [hL]; omega
      · show p1.u - x.sz = 26 * ((wfrom (upd p1.L i r) 8).length : Int)
        rw [hL, hu', hJ.u, sz_head (by rw [hk]; decide)]
        omega
      · show ∀ z ∈ wfrom (upd p1.L i r) 8, _
        rw [hL]
        exact fun z hz => hs1 z hz
end Go.Proofs.Ythgkminjhpaakaa
