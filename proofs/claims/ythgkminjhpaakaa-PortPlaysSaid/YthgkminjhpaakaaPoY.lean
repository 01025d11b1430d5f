/- The port and the document's port side by side (chapter 13): Drop, Double. -/
import Derived.Test.YthgkminjhpaakaaPoU
namespace Go.Proofs.Ythgkminjhpaakaa
open Go.RowKit

inductive DropRel (p : Pp) (k : Nat) : It → Pp → Prop
  | line (i j : Nat) (hj : j < (p.L i).length) : i < 8 → k = (wfrom p.L (7 - i)).length + j → DropRel p k (p.L i)[j] { p with u := p.u - (p.L i)[j].sz, L := upd p.L i ((p.L i).take j ++ (p.L i).drop (j + 1)) }
  | cred (j : Nat) (hj : j < p.C.length) : k = (wfrom p.L 8).length + j → DropRel p k p.C[j] { p with C := p.C.take j ++ p.C.drop (j + 1) }
inductive MDropRel (t : Mp) (k : Nat) : It → Mp → Prop
  | line (i j : Nat) (hj : j < (t.L i).length) : i < 8 → k = (wfrom t.L (7 - i)).length + j → MDropRel t k (t.L i)[j] { t with L := upd t.L i ((t.L i).take j ++ (t.L i).drop (j + 1)) }
  | cred (j : Nat) (hj : j < t.C.length) : k = (wfrom t.L 8).length + j → MDropRel t k t.C[j] { t with C := t.C.take j ++ t.C.drop (j + 1) }
theorem drop_any (b B0 : Nat) (l : Pl) (p : Pp) (N k : Nat) (w : World) (h : Po b B0 l p w) (ho : p.ok N) (hN : N ≤ 1000000) (hk : k < p.waits.length) : Calls Try.prog 22 #[.pointer (some ⟨b, 0, none⟩), .int .i64 k] w fun e w' => ∃ x p', e = .returned (.tuple #[boxV x, .bool true]) ∧ PoPost b B0 l p' w w' ∧ DropRel p k x p' := by
  refine (drop_yes b B0 l p k w h (ho.lens hN) hk (fun i hi x hx => by rw [ho.sum]; exact usum_mem hi hx) (by have := ho.u; have := ho.room; omega)).mono ?_
  rintro e w' (⟨i, j, hj, hi, hkk, rfl, hp⟩ | ⟨j, hj, hkk, rfl, hp⟩)
  · exact ⟨_, _, rfl, hp, .line i j hj hi hkk⟩
  · exact ⟨_, _, rfl, hp, .cred j hj hkk⟩
theorem mdrop_any (m : Nat) (U : Nat → Value) (uc : Value) (t : Mp) (N k : Nat) (w : World) (h : Mo m U uc t w) (ho : t.ok N) (hN : N ≤ 100000) (hk : k < t.waits.length) : Calls Try.prog 23 #[.pointer (some ⟨m, 0, none⟩), .int .i64 k] w fun e w' => ∃ x t', e = .returned (.tuple #[boxV x, .bool true]) ∧ MoPost m t' w w' ∧ MDropRel t k x t' := by
  have hkm : k ≤ 9223372036854775807 := by
    have h1 := wfrom_len t.L N ho.len 8 (by decide)
    unfold Mp.waits at hk
    rw [List.length_append] at hk
    have := ho.clen
    omega
  refine (mdrop m U uc t N k w h ho hN hkm).mono ?_
  rintro e w' (⟨i, j, hj, hi, hkk, rfl, hp⟩ | ⟨j, hj, hkk, rfl, hp⟩ | ⟨h1, _⟩)
  · exact ⟨_, _, rfl, hp, .line i j hj hi hkk⟩
  · exact ⟨_, _, rfl, hp, .cred j hj hkk⟩
  · omega
theorem wl_mono (L : Nat → List It) {a b : Nat} (h : a ≤ b) : (wfrom L a).length ≤ (wfrom L b).length := by
  induction b with
  | zero => obtain rfl : a = 0 := by omega
            exact Nat.le_refl _
  | succ b ih =>
    rcases Nat.lt_or_ge a (b + 1) with h1 | h1
    · have := ih (by omega)
      rw [wfrom, List.length_append]
      omega
    · obtain rfl : a = b + 1 := by omega
      exact Nat.le_refl _
theorem wl_step (L : Nat → List It) {i : Nat} (hi : i < 8) : (wfrom L (7 - i + 1)).length = (wfrom L (7 - i)).length + (L i).length := by
  rw [wfrom, List.length_append, show 7 - (7 - i) = i by omega]
theorem wl_uniq (L : Nat → List It) {i j i' j' : Nat} (hi : i < 8) (hi' : i' < 8) (hj : j < (L i).length) (hj' : j' < (L i').length) (h : (wfrom L (7 - i)).length + j = (wfrom L (7 - i')).length + j') : i = i' ∧ j = j' := by
  rcases Nat.lt_trichotomy i i' with h1 | h1 | h1
  · have h2 := wl_mono L (show 7 - i' + 1 ≤ 7 - i by omega)
    rw [wl_step L hi'] at h2
    omega
  · subst h1
    exact ⟨rfl, by omega⟩
  · have h2 := wl_mono L (show 7 - i + 1 ≤ 7 - i' by omega)
    rw [wl_step L hi] at h2
    omega
theorem wl_top (L : Nat → List It) {i j : Nat} (hi : i < 8) (hj : j < (L i).length) : (wfrom L (7 - i)).length + j < (wfrom L 8).length := by
  have h2 := wl_mono L (show 7 - i + 1 ≤ 8 by omega)
  rw [wl_step L hi] at h2
  omega
theorem Sim.drop {p p' : Pp} {t t' : Mp} {k : Nat} {x x' : It} (h : Sim p t) (h1 : DropRel p k x p') (h2 : MDropRel t k x' t') : x.plain = x'.plain ∧ Sim p' t' := by
  have hw : ∀ a, a ≤ 8 → (wfrom p.L a).length = (wfrom t.L a).length := fun a ha => (Like.wf h.L a ha).len
  have hl : ∀ i, i < 8 → (p.L i).length = (t.L i).length := fun i hi => (h.L i hi).len
  cases h1 with
  | line i j hj hi hk =>
    cases h2 with
    | line i' j' hj' hi' hk' =>
      obtain ⟨rfl, rfl⟩ := wl_uniq t.L hi hi' (by rw [← hl i hi]; exact hj) hj' (by rw [← hw (7 - i) (by omega)]; omega)
      obtain ⟨_, he⟩ := (h.L i hi).nth j hj
      exact ⟨he, h.lineL ((h.L i hi).cut j) _⟩
    | cred j' hj' hk' =>
      have := wl_top p.L hi hj
      rw [hw 8 (by decide)] at this
      omega
  | cred j hj hk =>
    cases h2 with
    | line i' j' hj' hi' hk' =>
      have := wl_top t.L hi' hj'
      rw [← hw 8 (by decide)] at this
      omega
    | cred j' hj' hk' =>
      have hjj : j = j' := by have := hw 8 (by decide); omega
      subst hjj
      obtain ⟨_, he⟩ := h.C.nth j hj
      exact ⟨he, h.cred (h.C.cut j)⟩
theorem sumZ_cut : ∀ (l : List It) (j : Nat) (hj : j < l.length), sumZ (l.take j ++ l.drop (j + 1)) = sumZ l - l[j].sz
  | x :: l, 0, _ => by
    rw [sumZ_cons]
    simp
    omega
  | x :: l, j + 1, hj => by
    have ih := sumZ_cut l j (by simpa using hj)
    have h1 : (x :: l).take (j + 1) ++ (x :: l).drop (j + 1 + 1) = x :: (l.take j ++ l.drop (j + 1)) := by simp
    rw [h1, sumZ_cons, sumZ_cons, ih]
    simp
    omega
theorem cut_sub {l : List It} {j : Nat} (hj : j < l.length) : (l.take j ++ l.drop (j + 1)).length ≤ l.length ∧ ∀ z ∈ l.take j ++ l.drop (j + 1), z ∈ l := by
  refine ⟨by rw [List.length_append, List.length_take, List.length_drop]; omega, fun z hz => ?_⟩
  rcases List.mem_append.1 hz with hz | hz
  · exact List.mem_of_mem_take hz
  · exact List.mem_of_mem_drop hz
theorem wfrom_sub {L : Nat → List It} {i : Nat} {l : List It} (h : l.length ≤ (L i).length) : ∀ k, (wfrom (upd L i l) k).length ≤ (wfrom L k).length
  | 0 => Nat.le_refl _
  | k + 1 => by
    rw [wfrom, wfrom, List.length_append, List.length_append]
    have h1 := wfrom_sub h k
    have h2 : (upd L i l (7 - k)).length ≤ (L (7 - k)).length := by
      by_cases hk : 7 - k = i
      · rw [hk, upd_same]; exact h
      · rw [upd_other _ _ hk]; exact Nat.le_refl _
    omega
theorem DropRel.ok {N : Nat} {p p' : Pp} {k : Nat} {x : It} (h : DropRel p k x p') (hp : p.ok N) : p'.ok N := by
  have hl := hp.len
  unfold Pp.waits at hl
  rw [List.length_append] at hl
  cases h with
  | line i j hj hi _ =>
    have hc := cut_sub hj
    have hxs := szIt (p.L i)[j]
    refine ⟨hp.room, by show p.u - (p.L i)[j].sz ≤ p.room; have := hp.u; omega, ?_, ?_, fun z hz => ?_⟩
    · show p.u - (p.L i)[j].sz = usum (upd p.L i _)
      rw [usum_upd _ hi, sumZ_cut _ _ hj, hp.sum]
      omega
    · show (wfrom (upd p.L i _) 8 ++ p.C).length ≤ N
      rw [List.length_append]
      have := wfrom_sub (L := p.L) hc.1 8
      omega
    · rcases hz with hz | ⟨q, hq, hz⟩
      · exact hp.items z (.inl hz)
      · exact hp.items z (.inr ⟨q, hq, (upd_sub hc.1 hc.2 q hq).2 z hz⟩)
  | cred j hj _ =>
    have hc := cut_sub hj
    refine ⟨hp.room, hp.u, hp.sum, ?_, fun z hz => ?_⟩
    · have h2 := hc.1
      show (wfrom p.L 8 ++ (p.C.take j ++ p.C.drop (j + 1))).length ≤ N
      have h3 : (wfrom p.L 8 ++ (p.C.take j ++ p.C.drop (j + 1))).length = (wfrom p.L 8).length + (p.C.take j ++ p.C.drop (j + 1)).length := List.length_append
      omega
    · rcases hz with hz | hz
      · exact hp.items z (.inl (hc.2 z hz))
      · exact hp.items z (.inr hz)
theorem MDropRel.ok {N : Nat} {t t' : Mp} {k : Nat} {x : It} (h : MDropRel t k x t') (ht : t.ok N) : t'.ok N := by
  cases h with
  | line i j hj hi _ => exact ht.sub (upd_sub (cut_sub hj).1 (cut_sub hj).2) ⟨Nat.le_refl _, fun z hz => hz⟩
  | cred j hj _ => exact ht.sub (fun i _ => ⟨Nat.le_refl _, fun z hz => hz⟩) (cut_sub hj)
theorem Sim.new (room credits : Int) (trim : Bool) : Sim (newP room credits trim) (newM room credits trim) :=
  ⟨rfl, rfl, rfl, fun _ _ => rfl, rfl, by show (0 : Int) ≤ 0; decide, by show (0 : Int) = min 0 1125899906842624; decide, rfl, rfl, rfl, by show (0 : Int) ≤ 0; decide, pc4_ok⟩
theorem newP_ok (room credits : Int) (trim : Bool) (h : 0 ≤ room ∧ room ≤ 1073741824) : (newP room credits trim).ok 0 :=
  ⟨by show 0 ≤ room ∧ room ≤ 1099511627776; omega, by show (0 : Int) ≤ room; omega, rfl, Nat.le_refl _, fun x hx => by
    rcases hx with hx | ⟨i, _, hx⟩
    · cases hx
    · cases hx⟩
theorem newM_ok (room credits : Int) (trim : Bool) : (newM room credits trim).ok 0 := by
  refine ⟨fun x hx => ?_, fun _ _ => Nat.le_refl _, Nat.le_refl _⟩
  rcases hx with hx | ⟨i, _, hx⟩
  · cases hx
  · cases hx
end Go.Proofs.Ythgkminjhpaakaa
