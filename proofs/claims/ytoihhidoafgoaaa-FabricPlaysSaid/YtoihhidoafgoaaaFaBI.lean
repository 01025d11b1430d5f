/- Both fabrics side by side (chapter 15). -/
import Derived.Test.YtoihhidoafgoaaaFaBH
namespace Go.Proofs.Ytoihhidoafgoaaa
open Go.RowKit

theorem nxt_nxt {H S n d q : Nat} {path : Int} (hs : Hs H S) (hd : d < H) (h : nxt H S n d path = ((q : Int), false)) : nxt H S q d path ≠ (-1, false) := by
  have h1 := hs.h
  have h2 := hs.s
  obtain ⟨hv1, hv2⟩ := hs.lv
  have hl : d / 2 < lvs H := by unfold lvs; omega
  have hnl : n < H → n / 2 < lvs H := fun h => by unfold lvs; omega
  have e5 : lvs H ≤ lvs H * S := Nat.le_mul_of_pos_right _ (by omega)
  have hHd : nxt H S (H + d) d path = (-1, true) := by
    unfold nxt
    rw [if_neg (by omega), if_pos (by omega)]
  have key : ∀ m : Nat, ((m : Int), false) ≠ (-1, false) := fun m e => by
    have := congrArg Prod.fst e
    have : (m : Int) = -1 := this
    omega
  unfold nxt at h
  by_cases c1 : n < H
  · rw [if_pos c1] at h
    by_cases c2 : d / 2 = n / 2
    · rw [if_pos c2] at h
      have hq : H + d = q := by
        have := congrArg Prod.fst h
        have : ((H + d : Nat) : Int) = q := this
        omega
      rw [← hq, hHd]
      intro e
      cases e
    · rw [if_neg c2] at h
      have hq : ((2 * H + n / 2 * S : Nat) : Int) + path % (S : Int) = q := congrArg Prod.fst h
      have m1 := Int.emod_nonneg path (show (S : Int) ≠ 0 by omega)
      have m2 := Int.emod_lt_of_pos path (show (0 : Int) < S by omega)
      have m3 : n / 2 * S + S ≤ lvs H * S := by
        have := Nat.mul_le_mul_right S (hnl c1)
        rw [Nat.succ_mul] at this
        exact this
      unfold nxt
      rw [if_neg (by omega), if_neg (by omega), if_pos (by omega)]
      exact key _
  · rw [if_neg c1] at h
    by_cases c2 : n < 2 * H
    · rw [if_pos c2] at h
      have := congrArg Prod.snd h
      cases this
    · rw [if_neg c2] at h
      by_cases c3 : n < 2 * H + lvs H * S
      · rw [if_pos c3] at h
        have hq : ((2 * H + lvs H * S + (n - 2 * H) % S * lvs H + d / 2 : Nat) : Int) = q := congrArg Prod.fst h
        have hq2 : q = 2 * H + lvs H * S + ((n - 2 * H) % S * lvs H + d / 2) := by omega
        unfold nxt
        rw [if_neg (by omega), if_neg (by omega), if_neg (by omega)]
        have e6 : q - 2 * H - lvs H * S = d / 2 + (n - 2 * H) % S * lvs H := by omega
        rw [e6, Nat.add_mul_mod_self_right, Nat.mod_eq_of_lt hl, if_pos rfl]
        exact key _
      · rw [if_neg c3] at h
        split at h
        · have hq : H + d = q := by
            have := congrArg Prod.fst h
            have : ((H + d : Nat) : Int) = q := this
            omega
          rw [← hq, hHd]
          intro e
          cases e
        · have : (-1 : Int) = q := congrArg Prod.fst h
          omega
theorem nxt_host {H S n d : Nat} {path : Int} (hs : Hs H S) (hn : n < H) : nxt H S n d path ≠ (-1, false) := by
  have h2 := hs.s
  unfold nxt
  rw [if_pos hn]
  split
  · intro e
    have : ((H + d : Nat) : Int) = -1 := congrArg Prod.fst e
    omega
  · intro e
    have : ((2 * H + n / 2 * S : Nat) : Int) + path % (S : Int) = -1 := congrArg Prod.fst e
    have m1 := Int.emod_nonneg path (show (S : Int) ≠ 0 by omega)
    omega
theorem nxt_arr {H S n d : Nat} {path : Int} (h1 : H ≤ n) (h2 : n < 2 * H) : nxt H S n d path = (-1, true) := by
  unfold nxt
  rw [if_neg (by omega), if_pos h2]
theorem MPutRel.all {P : It → Prop} {t t' : Mp} {x : It} {r : Int} (h : MPutRel t x r t') (ht : ∀ z, t.has z → P z) (hx : P x) (hh : P (x.hdr 7)) : ∀ z, t'.has z → P z := by
  have up : ∀ {i : Nat} {y : It}, P y → ∀ z, ({ t with L := upd t.L i (t.L i ++ [y]) } : Mp).has z → P z := fun {i y} hy z hz => by
    rcases hz with hz | ⟨j, hj, hz⟩
    · exact ht z (.inl hz)
    · replace hz : z ∈ upd t.L i (t.L i ++ [y]) j := hz
      by_cases hji : j = i
      · subst hji
        rw [upd_same] at hz
        rcases List.mem_append.1 hz with hz | hz
        · exact ht z (.inr ⟨j, hj, hz⟩)
        · rw [List.mem_singleton.1 hz]; exact hy
      · rw [upd_other _ _ hji] at hz
        exact ht z (.inr ⟨j, hj, hz⟩)
  cases h with
  | full _ _ => exact ht
  | drop _ _ _ => exact ht
  | cred _ _ =>
    intro z hz
    rcases hz with hz | hz
    · rcases List.mem_append.1 hz with hz | hz
      · exact ht z (.inl hz)
      · rw [List.mem_singleton.1 hz]; exact hx
    · exact ht z (.inr hz)
  | line i _ _ _ _ => exact up hx
  | trim _ _ _ _ => exact up hh
def Di (W0 : World) (x : It) : Prop := x.dn = x.bs.length ∧ Rd W0 1 (.slice x.da x.dn x.dc) x.dn (bcells x.bs)
structure Dx (W0 : World) (H S i : Nat) (x : It) : Prop where
  d : Di W0 x
  lo : 0 ≤ x.dst
  hi : x.dst < H
  rt : nxt H S i x.dst.toNat x.path ≠ (-1, false)
theorem Dx.hdr {W0 : World} {H S i : Nat} {x : It} (h : Dx W0 H S i x) : Dx W0 H S i (x.hdr 7) := ⟨⟨rfl, .inl ⟨rfl, rfl, rfl⟩⟩, h.lo, h.hi, h.rt⟩
theorem path_plain {z x : It} (h : z.plain = x.plain) : z.path = x.path := by
  have := congrArg It.path h
  exact this
theorem Mp.ok.mono {t : Mp} {N M : Nat} (h : t.ok N) (hM : N ≤ M) : t.ok M := ⟨h.items, fun i hi => Nat.le_trans (h.len i hi) hM, Nat.le_trans h.clen hM⟩
structure Fsim (W0 : World) (N : Nat) (s : Fs) (ms : Ms) : Prop where
  H : ms.H = s.H
  S : ms.S = s.S
  hs : Hs s.H s.S
  lost : ms.lost = s.lost
  so : s.ok N
  mp : ∀ i, i < nP s.H s.S → (ms.P i).ok N
  p : ∀ i, i < nP s.H s.S → Sim (s.P i) (ms.P i)
  a : ∀ h, h < s.H → Like (s.A h) (ms.A h)
  pd : ∀ i, i < nP s.H s.S → ∀ x, (ms.P i).has x → Dx W0 s.H s.S i x
  ad : ∀ h, h < s.H → ∀ x, x ∈ ms.A h → Di W0 x
section
variable {W0 : World} {N : Nat} {s s' : Fs} {ms ms' : Ms}
theorem Fsim.mono (h : Fsim W0 N s ms) {M : Nat} (hM : N ≤ M) : Fsim W0 M s ms := ⟨h.H, h.S, h.hs, h.lost, h.so.mono hM, fun i hi => (h.mp i hi).mono hM, h.p, h.a, h.pd, h.ad⟩
theorem Fsim.mok (h : Fsim W0 N s ms) : ms.ok N := by
  refine ⟨fun i hi => h.mp i (by rw [← h.H, ← h.S]; exact hi), fun k hk => ?_, by rw [h.lost]; exact h.so.lost⟩
  have hk2 : k < s.H := by rw [← h.H]; exact hk
  rw [← (h.a k hk2).len]
  exact h.so.a k hk2
theorem Fsim.lostBy (h : Fsim W0 N s ms) (r : Int) : Fsim W0 (N + 1) (lostBy s r) (mlostBy ms r) := by
  have h1 := h.so.lostBy r
  have h2 := h.mono (Nat.le_succ N)
  unfold Go.Proofs.Ytoihhidoafgoaaa.lostBy at h1 ⊢
  unfold mlostBy
  by_cases e : r = 3
  · rw [if_pos e] at h1 ⊢
    rw [if_pos e]
    exact ⟨h2.H, h2.S, h2.hs, by show ms.lost + 1 = s.lost + 1; rw [h2.lost], h1, h2.mp, h2.p, h2.a, h2.pd, h2.ad⟩
  · rw [if_neg e, if_neg e]
    exact h2
theorem Fsim.port (h : Fsim W0 N s ms) {M i : Nat} {p' : Pp} {t' : Mp} (hM : N ≤ M) (hso : ({ s with P := upd s.P i p' } : Fs).ok M) (hs : Sim p' t') (ho : t'.ok M) (hd : ∀ x, t'.has x → Dx W0 s.H s.S i x) : Fsim W0 M { s with P := upd s.P i p' } { ms with P := upd ms.P i t' } := by
  refine ⟨h.H, h.S, h.hs, h.lost, hso, fun j hj => ?_, fun j hj => ?_, h.a, fun j hj x hx => ?_, h.ad⟩
  · show (upd ms.P i t' j).ok M
    by_cases e : j = i
    · subst e; rw [upd_same]; exact ho
    · rw [upd_other _ _ e]; exact (h.mp j hj).mono hM
  · show Sim (upd s.P i p' j) (upd ms.P i t' j)
    by_cases e : j = i
    · subst e; rw [upd_same, upd_same]; exact hs
    · rw [upd_other _ _ e, upd_other _ _ e]; exact h.p j hj
  · have hx : (upd ms.P i t' j).has x := hx
    by_cases e : j = i
    · subst e; rw [upd_same] at hx; exact hd x hx
    · rw [upd_other _ _ e] at hx; exact h.pd j hj x hx
theorem Fsim.put (h : Fsim W0 N s ms) {q : Nat} (hq : q < nP s.H s.S) {x x' : It} {r r' : Int} {p' : Pp} {t' : Mp} (hx : x.plain = x'.plain) (ho : x.ok) (ho' : x'.ok2) (hd : Dx W0 s.H s.S q x') (h1 : PutRel (s.P q) x r p') (h2 : MPutRel (ms.P q) x' r' t') :
    r = r' ∧ Fsim W0 (N + 2) (Go.Proofs.Ytoihhidoafgoaaa.lostBy { s with P := upd s.P q p' } r) (mlostBy { ms with P := upd ms.P q t' } r') := by
  obtain ⟨hr, hs⟩ := (h.p q hq).put (h.so.p q hq) (h.mp q hq) hx ho' h1 h2
  subst hr
  refine ⟨rfl, (h.port (M := N + 1) (i := q) (Nat.le_succ N) ?_ hs (h2.ok (h.mp q hq) ho') (h2.all (h.pd q hq) hd hd.hdr)).lostBy r⟩
  exact (h.so.mono (Nat.le_succ N)).port fun _ => ⟨h1.ok (h.so.p q hq) ho, fun z hz => (h1.dst hz).elim (h.so.dst q hq z) fun e => by rw [e, dst_plain hx]; exact ⟨hd.lo, hd.hi⟩⟩
theorem Fsim.takeP (h : Fsim W0 N s ms) {n : Nat} (hn : n < nP s.H s.S) {now : Int} {x x' : It} {b b' : Bool} {p' : Pp} {t' : Mp} (h1 : TakeRel (s.P n) (max (s.P n).now now) x b p') (h2 : MTakeRel (ms.P n) (max (ms.P n).now (min now 1125899906842624)) x' b' t') :
    b = b' ∧ x.plain = x'.plain ∧ Fsim W0 N { s with P := upd s.P n p' } { ms with P := upd ms.P n t' } ∧ (b = true → x.ok ∧ x'.ok2 ∧ Dx W0 s.H s.S n x') := by
  obtain ⟨hb, hx, hs⟩ := (h.p n hn).take rfl rfl h1 h2
  subst hb
  refine ⟨rfl, hx, h.port (Nat.le_refl N) (take_ok h.so hn h1) hs (h2.ok (h.mp n hn)) fun z hz => h.pd n hn z (h2.has.1 z hz), fun hb => ?_⟩
  subst hb
  exact ⟨(h.so.p n hn).items x h1.mem, (h.mp n hn).items x' h2.mem, h.pd n hn x' h2.mem⟩
theorem Fsim.arr (h : Fsim W0 N s ms) {k : Nat} (hk : k < s.H) {x x' : It} (hx : x.plain = x'.plain) (ho : x.ok) (hd : Di W0 x') : Fsim W0 (N + 2) { s with A := upd s.A k (s.A k ++ [x]) } { ms with A := upd ms.A k (ms.A k ++ [x']) } := by
  have h3 := h.so.mono (show N ≤ N + 2 by omega)
  have hso : ({ s with A := upd s.A k (s.A k ++ [x]) } : Fs).ok (N + 2) := by
    refine h3.arr ?_ fun z hz => ?_
    · have := h.so.a k hk
      rw [List.length_append]
      simp only [List.length_singleton]
      omega
    · rcases List.mem_append.1 hz with hz | hz
      · exact h.so.ai k hk z hz
      · rw [List.mem_singleton.1 hz]; exact ho
  refine ⟨h.H, h.S, h.hs, h.lost, hso, fun i hi => (h.mp i hi).mono (by omega), h.p, fun j hj => ?_, h.pd, fun j hj z hz => ?_⟩
  · show Like (upd s.A k _ j) (upd ms.A k _ j)
    by_cases e : j = k
    · subst e; rw [upd_same, upd_same]; exact (h.a j hj).snoc hx
    · rw [upd_other _ _ e, upd_other _ _ e]; exact h.a j hj
  · have hz : z ∈ upd ms.A k (ms.A k ++ [x']) j := hz
    by_cases e : j = k
    · subst e
      rw [upd_same] at hz
      rcases List.mem_append.1 hz with hz | hz
      · exact h.ad j hj z hz
      · rw [List.mem_singleton.1 hz]; exact hd
    · rw [upd_other _ _ e] at hz; exact h.ad j hj z hz
theorem Fsim.serve (h : Fsim W0 N s ms) {n : Nat} (hn : n < nP s.H s.S) {now : Int} {b b' : Bool} (h1 : ServeRel s n now b s') (h2 : MServeRel ms n now b' ms') : b = b' ∧ Fsim W0 (N + 2) s' ms' := by
  have hH := h.H
  have hS := h.S
  cases h1 with
  | none x p' a1 =>
    cases h2 with
    | none x' t' b1 =>
      obtain ⟨_, _, k3, _⟩ := h.takeP hn a1 b1
      exact ⟨rfl, k3.mono (by omega)⟩
    | arr x' t' b1 => exact absurd (h.takeP hn a1 b1).1 (by decide)
    | move x' t' q r t'' b1 => exact absurd (h.takeP hn a1 b1).1 (by decide)
  | arr x p' a1 a2 a3 =>
    cases h2 with
    | none x' t' b1 => exact absurd (h.takeP hn a1 b1).1 (by decide)
    | arr x' t' b1 b2 b3 =>
      obtain ⟨_, k2, k3, k4⟩ := h.takeP hn a1 b1
      obtain ⟨k5, _, k6⟩ := k4 rfl
      rw [show n - ms.H = n - s.H by rw [hH]]
      exact ⟨rfl, k3.arr (k := n - s.H) (by show n - s.H < s.H; omega) k2 k5 k6.d⟩
    | move x' t' q r t'' b1 b2 =>
      rw [hH, hS, nxt_arr a2 a3] at b2
      have := congrArg Prod.snd b2
      cases this
  | move x p' q r p'' a1 a2 a3 a4 =>
    cases h2 with
    | none x' t' b1 => exact absurd (h.takeP hn a1 b1).1 (by decide)
    | arr x' t' b1 b2 b3 =>
      rw [hH] at b2 b3
      rw [nxt_arr b2 b3] at a2
      have := congrArg Prod.snd a2
      cases this
    | move x' t' q' r' t'' b1 b2 b3 b4 =>
      obtain ⟨_, k2, k3, k4⟩ := h.takeP hn a1 b1
      obtain ⟨k5, k6, k7⟩ := k4 rfl
      rw [hH, hS, ← dst_plain k2, ← path_plain k2, a2] at b2
      have hqq : (q : Int) = q' := congrArg Prod.fst b2
      obtain rfl : q = q' := by omega
      rw [dst_plain k2, path_plain k2] at a2
      have hd : x'.dst.toNat < s.H := by have := k7.lo; have := k7.hi; omega
      obtain ⟨e1, e2⟩ := k3.put (q := q) a3 k2 k5 k6 ⟨k7.d, k7.lo, k7.hi, nxt_nxt h.hs hd a2⟩ a4 b4
      exact ⟨rfl, e2⟩
  | gone x p' a1 a2 =>
    have hno : ∀ {x' : It} {t' : Mp}, MTakeRel (ms.P n) (max (ms.P n).now (min now 1125899906842624)) x' true t' → False := fun {x' t'} b1 => by
      obtain ⟨_, k2, _, k4⟩ := h.takeP hn a1 b1
      rw [dst_plain k2, path_plain k2] at a2
      exact (k4 rfl).2.2.rt a2
    cases h2 with
    | none x' t' b1 => exact absurd (h.takeP hn a1 b1).1 (by decide)
    | arr x' t' b1 => exact (hno b1).elim
    | move x' t' q r t'' b1 => exact (hno b1).elim
theorem Fsim.takeF (h : Fsim W0 N s ms) {k : Nat} (hk : k < s.H) {x : It} {l : List It} (hA : s.A k = x :: l) : ∃ x' l', ms.A k = x' :: l' ∧ x.plain = x'.plain ∧ Di W0 x' ∧ Fsim W0 N { s with A := upd s.A k l } { ms with A := upd ms.A k l' } := by
  have h1 := h.a k hk
  rw [hA] at h1
  obtain ⟨x', l', hm, hx, hl⟩ := h1.cons_inv
  have hmem : ∀ z, z ∈ ms.A k → Di W0 z := h.ad k hk
  refine ⟨x', l', hm, hx, hmem x' (by rw [hm]; exact List.mem_cons_self), h.H, h.S, h.hs, h.lost, takeF_ok h.so hk hA, h.mp, h.p, fun j hj => ?_, h.pd, fun j hj z hz => ?_⟩
  · show Like (upd s.A k _ j) (upd ms.A k _ j)
    by_cases e : j = k
    · subst e; rw [upd_same, upd_same]; exact hl
    · rw [upd_other _ _ e, upd_other _ _ e]; exact h.a j hj
  · have hz : z ∈ upd ms.A k l' j := hz
    by_cases e : j = k
    · subst e
      rw [upd_same] at hz
      exact hmem z (by rw [hm]; exact List.mem_cons_of_mem _ hz)
    · rw [upd_other _ _ e] at hz; exact h.ad j hj z hz
theorem Fsim.dropF (h : Fsim W0 N s ms) {n : Nat} (hn : n < nP s.H s.S) {k r r' : Int} (h1 : DropF s n k r s') (h2 : MDropF ms n k r' ms') : r = r' ∧ Fsim W0 (N + 2) s' ms' := by
  have key : ∀ {x x' : It} {b b' : Bool} {p' : Pp} {t' : Mp}, DropB (s.P n) k x b p' → MDropB (ms.P n) k x' b' t' → b = b' ∧ Fsim W0 N { s with P := upd s.P n p' } { ms with P := upd ms.P n t' } := fun {x x' b b' p' t'} a1 b1 => by
    obtain ⟨k1, k2, k3⟩ := (h.p n hn).dropB a1 b1
    refine ⟨k1, h.port (Nat.le_refl N) ?_ k3 (b1.ok (h.mp n hn)) fun z hz => h.pd n hn z (b1.has.1 z hz)⟩
    exact h.so.port fun _ => ⟨a1.ok (h.so.p n hn), fun z hz => h.so.dst n hn z (a1.sub hz)⟩
  cases h1 with
  | no x p' a1 =>
    cases h2 with
    | no x' t' b1 => exact ⟨rfl, (key a1 b1).2.mono (by omega)⟩
    | yes x' t' b1 => exact absurd (key a1 b1).1 (by decide)
  | yes x p' a1 =>
    cases h2 with
    | no x' t' b1 => exact absurd (key a1 b1).1 (by decide)
    | yes x' t' b1 => exact ⟨rfl, ((key a1 b1).2.lostBy 3).mono (by omega)⟩
theorem Fsim.doubleF (h : Fsim W0 N s ms) {n : Nat} (hn : n < nP s.H s.S) {k r r' : Int} (h1 : DoubleF s n k r s') (h2 : MDoubleF ms n k r' ms') : r = r' ∧ Fsim W0 (N + 2) s' ms' := by
  have hw := (h.p n hn).waits
  have hl := hw.len
  cases h1 with
  | no a1 =>
    cases h2 with
    | no b1 => exact ⟨rfl, h.mono (by omega)⟩
    | yes j hj r' t' b1 b2 => omega
  | yes j hj y r1 p' a1 a2 a3 =>
    cases h2 with
    | no b1 => omega
    | yes j' hj' r2 t' b1 b2 =>
      obtain rfl : j = j' := by omega
      obtain ⟨_, hpl⟩ := hw.nth j hj
      have hm : (s.P n).has (s.P n).waits[j] := mem_waits (List.getElem_mem hj)
      have hm' : (ms.P n).has (ms.P n).waits[j] := mem_mwaits (List.getElem_mem hj')
      exact ⟨rfl, (h.put hn (a2.trans hpl) (It.ok_plain a2 ((h.so.p n hn).items _ hm)) ((h.mp n hn).items _ hm') (h.pd n hn _ hm') a3 b2).2⟩
theorem Fsim.new (W0 : World) {H S : Nat} (hs : Hs H S) {room credits : Int} (trim : Bool) (hr : 0 ≤ room ∧ room ≤ 1073741824) : Fsim W0 0 (newFs H S room credits trim) (newMs H S room credits trim) :=
  ⟨rfl, rfl, hs, rfl, newFs_ok H S room credits trim hr, fun i _ => newM_ok room credits trim, fun i _ => Sim.new room credits trim, fun h _ => rfl, fun i _ x hx => (by
    rcases hx with hx | ⟨j, _, hx⟩
    · cases hx
    · cases hx), fun h _ x hx => (by cases hx)⟩
theorem Fsim.waitN (h : Fsim W0 N s ms) : s.waitN = ms.waitN := by
  unfold Fs.waitN Ms.waitN
  rw [h.H, h.S]
  exact sumN_congr _ fun i hi => (h.p i hi).waits.len
theorem Fsim.arrN (h : Fsim W0 N s ms) : s.arrN = ms.arrN := by
  unfold Fs.arrN Ms.arrN
  rw [h.H]
  exact sumN_congr _ fun i hi => (h.a i hi).len
theorem Fsim.byN (h : Fsim W0 N s ms) (d : Int) : ∀ k, k ≤ nP s.H s.S → Go.Proofs.Ytoihhidoafgoaaa.byN d s.P k = mbyN d ms.P k
  | 0, _ => rfl
  | k + 1, hk => by
    rw [Go.Proofs.Ytoihhidoafgoaaa.byN, mbyN, h.byN d k (by omega), byL_like (h.p k (by omega)).waits]
end
end Go.Proofs.Ytoihhidoafgoaaa
