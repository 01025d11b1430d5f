/- The fabric (chapter 15): what calls keep, and count. No program in sight. -/
import Derived.Test.YtoihhidoafgoaaaMI
namespace Go.Proofs.Ytoihhidoafgoaaa
open Go.RowKit

theorem PutRel.has {p p' : Pp} {x : It} {r : Int} (h : PutRel p x r p') {z : It} (hz : p'.has z) : p.has z ∨ z.plain = x.plain ∨ z = x.hdr 7 := by
  cases h with
  | full => exact .inl hz
  | drop => exact .inl hz
  | cred y _ _ hy =>
    rcases hz with hz | hz
    · rcases List.mem_append.1 hz with hz | hz
      · exact .inl (.inl hz)
      · rw [List.mem_singleton.1 hz]; exact .inr (.inl hy)
    · exact .inl (.inr hz)
  | line y i _ hi _ hf hy =>
    rcases hz with hz | ⟨j, hj, hz⟩
    · exact .inl (.inl hz)
    · replace hz : z ∈ upd p.L i (p.L i ++ [y]) j := hz
      by_cases hji : j = i
      · subst hji
        rw [upd_same] at hz
        rcases List.mem_append.1 hz with hz | hz
        · exact .inl (.inr ⟨j, hj, hz⟩)
        · rw [List.mem_singleton.1 hz]; exact .inr (.inl hy)
      · rw [upd_other _ _ hji] at hz
        exact .inl (.inr ⟨j, hj, hz⟩)
  | trim =>
    rcases hz with hz | ⟨j, hj, hz⟩
    · exact .inl (.inl hz)
    · replace hz : z ∈ upd p.L 7 (p.L 7 ++ [x.hdr 7]) j := hz
      by_cases hji : j = 7
      · subst hji
        rw [upd_same] at hz
        rcases List.mem_append.1 hz with hz | hz
        · exact .inl (.inr ⟨7, hj, hz⟩)
        · exact .inr (.inr (List.mem_singleton.1 hz))
      · rw [upd_other _ _ hji] at hz
        exact .inl (.inr ⟨j, hj, hz⟩)
theorem dst_plain {z x : It} (h : z.plain = x.plain) : z.dst = x.dst := by
  have := congrArg It.dst h
  exact this
theorem PutRel.dst {p p' : Pp} {x : It} {r : Int} (h : PutRel p x r p') {z : It} (hz : p'.has z) : p.has z ∨ z.dst = x.dst := by
  rcases h.has hz with h | h | h
  · exact .inl h
  · exact .inr (dst_plain h)
  · exact .inr (by rw [h]; rfl)
theorem TakeRel.sub {p p' : Pp} {T : Int} {x : It} {b : Bool} (h : TakeRel p T x b p') {z : It} (hz : p'.has z) : p.has z := by
  cases h with
  | cred x r a1 _ =>
    rcases hz with hz | hz
    · exact .inl (by rw [a1]; exact List.mem_cons_of_mem _ hz)
    · exact .inr hz
  | none => exact hz
  | line s i x r _ a2 a3 a4 =>
    rcases hz with hz | ⟨j, hj, hz⟩
    · exact .inl hz
    · replace hz : z ∈ upd p.L i r j := hz
      by_cases hji : j = i
      · subst hji
        rw [upd_same] at hz
        exact .inr ⟨j, hj, by rw [a3]; exact List.mem_cons_of_mem _ hz⟩
      · rw [upd_other _ _ hji] at hz
        exact .inr ⟨j, hj, hz⟩
theorem DropB.sub {p p' : Pp} {k : Int} {x : It} {b : Bool} (h : DropB p k x b p') {z : It} (hz : p'.has z) : p.has z := by
  rcases h with ⟨_, _, _, rfl⟩ | ⟨_, _, _, h⟩
  · exact hz
  · cases h with
    | line i j hj hi _ =>
      rcases hz with hz | ⟨q, hq, hz⟩
      · exact .inl hz
      · exact .inr ⟨q, hq, (upd_sub (L := p.L) (cut_sub hj).1 (cut_sub hj).2 q hq).2 z hz⟩
    | cred j hj _ =>
      rcases hz with hz | hz
      · exact .inl ((cut_sub hj).2 z hz)
      · exact .inr hz
/-- how many wait behind it -/
theorem PutRel.count {p p' : Pp} {x : It} {r : Int} (h : PutRel p x r p') : (r = 3 ∧ p'.waits.length = p.waits.length) ∨ (r ≠ 3 ∧ p'.waits.length = p.waits.length + 1) := by
  cases h with
  | full => exact .inl ⟨rfl, rfl⟩
  | drop => exact .inl ⟨rfl, rfl⟩
  | cred y _ _ hy =>
    refine .inr ⟨by decide, ?_⟩
    show (wfrom p.L 8 ++ (p.C ++ [y])).length = (wfrom p.L 8 ++ p.C).length + 1
    simp only [List.length_append, List.length_singleton]
    omega
  | line y i _ hi _ hf hy =>
    refine .inr ⟨by decide, ?_⟩
    show (wfrom (upd p.L i (p.L i ++ [y])) 8 ++ p.C).length = (wfrom p.L 8 ++ p.C).length + 1
    rw [List.length_append, wfrom_push _ _ hi, List.length_append]
    omega
  | trim =>
    refine .inr ⟨by decide, ?_⟩
    show (wfrom (upd p.L 7 (p.L 7 ++ [x.hdr 7])) 8 ++ p.C).length = (wfrom p.L 8 ++ p.C).length + 1
    rw [List.length_append, wfrom_push _ _ (by decide), List.length_append]
    omega
theorem TakeRel.count {p p' : Pp} {T : Int} {x : It} {b : Bool} (h : TakeRel p T x b p') : p.waits.length = p'.waits.length + b.toNat := by
  cases h with
  | cred x r a1 _ =>
    show (wfrom p.L 8 ++ p.C).length = (wfrom p.L 8 ++ r).length + 1
    rw [a1]
    simp only [List.length_append, List.length_cons]
    omega
  | none => rfl
  | line s i x r _ a2 a3 a4 =>
    show (wfrom p.L 8 ++ p.C).length = (wfrom (upd p.L i r) 8 ++ p.C).length + 1
    rw [wfrom_pop a2 a3 a4]
    simp only [List.length_append, List.length_cons]
    omega
theorem wfrom_cut {L : Nat → List It} {i j : Nat} (hi : i < 8) (hj : j < (L i).length) : (wfrom L 8).length = (wfrom (upd L i ((L i).take j ++ (L i).drop (j + 1))) 8).length + 1 := by
  have e : (L i).length = ((L i).take j ++ (L i).drop (j + 1)).length + 1 := by
    simp only [List.length_append, List.length_take, List.length_drop]
    omega
  generalize (L i).take j ++ (L i).drop (j + 1) = r at e
  have h8 := eight hi
  simp only [wfrom, List.length_append, List.length_nil, Nat.zero_add, Nat.sub_zero]
  rcases h8 with rfl | rfl | rfl | rfl | rfl | rfl | rfl | rfl <;> simp [upd] at * <;> omega
theorem DropB.count {p p' : Pp} {k : Int} {x : It} {b : Bool} (h : DropB p k x b p') : p.waits.length = p'.waits.length + b.toNat := by
  rcases h with ⟨_, _, rfl, rfl⟩ | ⟨_, _, rfl, h⟩
  · rfl
  · cases h with
    | line i j hj hi _ =>
      show (wfrom p.L 8 ++ p.C).length = (wfrom (upd p.L i _) 8 ++ p.C).length + 1
      rw [List.length_append, List.length_append, wfrom_cut hi hj]
      omega
    | cred j hj _ =>
      show (wfrom p.L 8 ++ p.C).length = (wfrom p.L 8 ++ (p.C.take j ++ p.C.drop (j + 1))).length + 1
      simp only [List.length_append, List.length_take, List.length_drop]
      omega
def Fs.tot (s : Fs) : Int := s.lost + s.waitN + s.arrN
section
variable {s s' : Fs} {N : Nat}
theorem Fs.ok.mono (h : s.ok N) {M : Nat} (hM : N ≤ M) : s.ok M :=
  ⟨fun i hi => (h.p i hi).mono hM, h.dst, fun k hk => Nat.le_trans (h.a k hk) hM, h.ai, ⟨h.lost.1, by have := h.lost.2; omega⟩⟩
theorem Fs.ok.lens (h : s.ok N) (hN : N ≤ 1000000) : s.lens := ⟨fun i hi => (h.p i hi).lens hN, fun k hk => Nat.le_trans (h.a k hk) hN⟩
theorem Fs.ok.port (h : s.ok N) {i : Nat} {p' : Pp} (hp : i < nP s.H s.S → p'.ok N ∧ ∀ z, p'.has z → 0 ≤ z.dst ∧ z.dst < s.H) : ({ s with P := upd s.P i p' } : Fs).ok N := by
  refine ⟨fun j hj => ?_, fun j hj z hz => ?_, h.a, h.ai, h.lost⟩
  · by_cases e : j = i
    · subst e
      show (upd s.P j p' j).ok N
      rw [upd_same]; exact (hp hj).1
    · show (upd s.P i p' j).ok N
      rw [upd_other _ _ e]; exact h.p j hj
  · by_cases e : j = i
    · subst e
      have hz : (upd s.P j p' j).has z := hz
      rw [upd_same] at hz; exact (hp hj).2 z hz
    · have hz : (upd s.P i p' j).has z := hz
      rw [upd_other _ _ e] at hz; exact h.dst j hj z hz
theorem Fs.ok.lostBy (h : s.ok N) (r : Int) : (lostBy s r).ok (N + 1) := by
  unfold Go.Proofs.Ytoihhidoafgoaaa.lostBy
  split
  · have := h.mono (Nat.le_succ N)
    exact ⟨this.p, this.dst, this.a, this.ai, ⟨by have := h.lost; show 0 ≤ s.lost + 1; omega, by have := h.lost; show s.lost + 1 ≤ _; push_cast; omega⟩⟩
  · exact h.mono (Nat.le_succ N)
theorem send_ok {i : Nat} {x : It} {r : Int} {p' : Pp} (h : s.ok N) (hi : i < nP s.H s.S) (hx : x.ok) (hd : 0 ≤ x.dst ∧ x.dst < s.H) (hr : PutRel (s.P i) x r p') : (lostBy { s with P := upd s.P i p' } r).ok (N + 2) :=
  ((h.mono (Nat.le_succ N)).port fun _ => ⟨hr.ok (h.p i hi) hx, fun z hz => (hr.dst hz).elim (h.dst i hi z) fun e => by rw [e]; exact hd⟩).lostBy r
theorem take_ok {n : Nat} {T : Int} {x : It} {b : Bool} {p' : Pp} (h : s.ok N) (hn : n < nP s.H s.S) (hr : TakeRel (s.P n) T x b p') : ({ s with P := upd s.P n p' } : Fs).ok N :=
  h.port fun _ => ⟨hr.ok (h.p n hn), fun z hz => h.dst n hn z (hr.sub hz)⟩
theorem Fs.ok.arr (h : s.ok N) {k : Nat} {l : List It} (hl : l.length ≤ N) (hi : ∀ z, z ∈ l → z.ok) : ({ s with A := upd s.A k l } : Fs).ok N := by
  refine ⟨h.p, h.dst, fun j hj => ?_, fun j hj z hz => ?_, h.lost⟩
  · show (upd s.A k l j).length ≤ N
    by_cases e : j = k
    · subst e; rw [upd_same]; exact hl
    · rw [upd_other _ _ e]; exact h.a j hj
  · have hz : z ∈ upd s.A k l j := hz
    by_cases e : j = k
    · subst e; rw [upd_same] at hz; exact hi z hz
    · rw [upd_other _ _ e] at hz; exact h.ai j hj z hz
theorem ServeRel.ok {n : Nat} {now : Int} {b : Bool} (hr : ServeRel s n now b s') (h : s.ok N) (hn : n < nP s.H s.S) : s'.ok (N + 2) := by
  cases hr with
  | none x p' ht => exact (take_ok h hn ht).mono (by omega)
  | arr x p' ht h1 h2 =>
    have h3 := (take_ok h hn ht).mono (show N ≤ N + 2 by omega)
    refine h3.arr (k := n - s.H) (l := s.A (n - s.H) ++ [x]) ?_ fun z hz => ?_
    · have := h.a (n - s.H) (by omega)
      rw [List.length_append]
      simp only [List.length_singleton]
      omega
    · rcases List.mem_append.1 hz with hz | hz
      · exact h.ai _ (by omega) z hz
      · rw [List.mem_singleton.1 hz]; exact (h.p n hn).items x ht.mem
  | move x p' q r p'' ht hx hq hp =>
    exact send_ok (s := { s with P := upd s.P n p' }) (take_ok h hn ht) hq ((h.p n hn).items x ht.mem) (h.dst n hn x ht.mem) hp
  | gone x p' ht hx => exact ((take_ok h hn ht).lostBy 3).mono (by omega)
theorem DropF.ok {n : Nat} {k r : Int} (hr : DropF s n k r s') (h : s.ok N) (hn : n < nP s.H s.S) : s'.ok (N + 2) := by
  have key : ∀ {x b p'}, DropB (s.P n) k x b p' → ({ s with P := upd s.P n p' } : Fs).ok N := fun hb => h.port fun _ => ⟨hb.ok (h.p n hn), fun z hz => h.dst n hn z (hb.sub hz)⟩
  cases hr with
  | no x p' hb => exact (key hb).mono (by omega)
  | yes x p' hb => exact ((key hb).lostBy 3).mono (by omega)
theorem DoubleF.ok {n : Nat} {k r : Int} (hr : DoubleF s n k r s') (h : s.ok N) (hn : n < nP s.H s.S) : s'.ok (N + 2) := by
  cases hr with
  | no _ => exact h.mono (by omega)
  | yes j hj y r p' _ hy hp =>
    have hm : (s.P n).has (s.P n).waits[j] := mem_waits (List.getElem_mem hj)
    exact send_ok h hn (It.ok_plain hy ((h.p n hn).items _ hm)) (by rw [dst_plain hy]; exact h.dst n hn _ hm) hp
/-- sums -/
theorem waitN_upd {i : Nat} {p' : Pp} (hi : i < nP s.H s.S) : ({ s with P := upd s.P i p' } : Fs).waitN + (s.P i).waits.length = s.waitN + p'.waits.length :=
  sumN_upd (fun p : Pp => p.waits.length) s.P p' _ hi
theorem arrN_upd {k : Nat} {l : List It} (hk : k < s.H) : ({ s with A := upd s.A k l } : Fs).arrN + (s.A k).length = s.arrN + l.length :=
  sumN_upd (fun p : List It => p.length) s.A l _ hk
theorem lostBy_tot (r : Int) : (lostBy s r).tot = s.tot + (if r = 3 then 1 else 0) := by
  unfold lostBy
  split
  · show s.lost + 1 + s.waitN + s.arrN = s.lost + s.waitN + s.arrN + 1
    omega
  · rw [Int.add_zero]
theorem send_tot {i : Nat} {x : It} {r : Int} {p' : Pp} (hi : i < nP s.H s.S) (hr : PutRel (s.P i) x r p') : (lostBy { s with P := upd s.P i p' } r).tot = s.tot + 1 := by
  rw [lostBy_tot]
  have h1 := waitN_upd (s := s) (p' := p') hi
  have h2 := hr.count
  show s.lost + ((({ s with P := upd s.P i p' } : Fs).waitN : Nat) : Int) + s.arrN + _ = s.lost + s.waitN + s.arrN + 1
  rcases h2 with ⟨rfl, h2⟩ | ⟨h2, h3⟩
  · rw [if_pos rfl]; omega
  · rw [if_neg h2]; omega
theorem take_tot {n : Nat} {T : Int} {x : It} {b : Bool} {p' : Pp} (hn : n < nP s.H s.S) (hr : TakeRel (s.P n) T x b p') : ({ s with P := upd s.P n p' } : Fs).tot + (b.toNat : Int) = s.tot := by
  have h1 := waitN_upd (s := s) (p' := p') hn
  have h2 := hr.count
  show s.lost + ((({ s with P := upd s.P n p' } : Fs).waitN : Nat) : Int) + s.arrN + _ = s.lost + s.waitN + s.arrN
  omega
theorem ServeRel.tot {n : Nat} {now : Int} {b : Bool} (hr : ServeRel s n now b s') (hn : n < nP s.H s.S) : s'.tot = s.tot := by
  cases hr with
  | none x p' ht => have := take_tot hn ht; simpa using this
  | arr x p' ht h1 h2 =>
    have h3 := take_tot hn ht
    have h4 := arrN_upd (s := { s with P := upd s.P n p' }) (k := n - s.H) (l := s.A (n - s.H) ++ [x]) (show n - s.H < s.H by omega)
    rw [List.length_append] at h4
    simp only [List.length_singleton, Bool.toNat_true] at h3 h4
    have h5 : ({ s with P := upd s.P n p', A := upd s.A (n - s.H) (s.A (n - s.H) ++ [x]) } : Fs).arrN = ({ s with P := upd s.P n p' } : Fs).arrN + 1 := by
      have h6 : ({ s with P := upd s.P n p' } : Fs).A (n - s.H) = s.A (n - s.H) := rfl
      rw [h6] at h4
      have h7 : ({ ({ s with P := upd s.P n p' } : Fs) with A := upd ({ s with P := upd s.P n p' } : Fs).A (n - s.H) (s.A (n - s.H) ++ [x]) } : Fs).arrN = ({ s with P := upd s.P n p', A := upd s.A (n - s.H) (s.A (n - s.H) ++ [x]) } : Fs).arrN := rfl
      omega
    have h8 : ({ s with P := upd s.P n p', A := upd s.A (n - s.H) (s.A (n - s.H) ++ [x]) } : Fs).waitN = ({ s with P := upd s.P n p' } : Fs).waitN := rfl
    show s.lost + ((({ s with P := upd s.P n p', A := upd s.A (n - s.H) (s.A (n - s.H) ++ [x]) } : Fs).waitN : Nat) : Int) + ((({ s with P := upd s.P n p', A := upd s.A (n - s.H) (s.A (n - s.H) ++ [x]) } : Fs).arrN : Nat) : Int) = s.tot
    have h9 : ({ s with P := upd s.P n p' } : Fs).tot = s.lost + ({ s with P := upd s.P n p' } : Fs).waitN + ({ s with P := upd s.P n p' } : Fs).arrN := rfl
    rw [h5, h8]
    push_cast at *
    omega
  | move x p' q r p'' ht hx hq hp =>
    have h3 := take_tot hn ht
    have h4 := send_tot (s := { s with P := upd s.P n p' }) hq hp
    simp only [Bool.toNat_true] at h3
    show (lostBy { s with P := upd (upd s.P n p') q p'' } r).tot = s.tot
    have h5 : (lostBy { s with P := upd (upd s.P n p') q p'' } r).tot = ({ s with P := upd s.P n p' } : Fs).tot + 1 := h4
    omega
  | gone x p' ht hx =>
    have h3 := take_tot hn ht
    simp only [Bool.toNat_true] at h3
    rw [lostBy_tot, if_pos rfl]
    omega
theorem DropF.tot {n : Nat} {k r : Int} (hr : DropF s n k r s') (hn : n < nP s.H s.S) : s'.tot = s.tot := by
  have key : ∀ {x b p'}, DropB (s.P n) k x b p' → ({ s with P := upd s.P n p' } : Fs).tot + (b.toNat : Int) = s.tot := fun {x b p'} hb => by
    have h1 := waitN_upd (s := s) (p' := p') hn
    have h2 := hb.count
    show s.lost + ((({ s with P := upd s.P n p' } : Fs).waitN : Nat) : Int) + s.arrN + _ = s.lost + s.waitN + s.arrN
    omega
  cases hr with
  | no x p' hb => have := key hb; simpa using this
  | yes x p' hb =>
    have h1 := key hb
    simp only [Bool.toNat_true] at h1
    have h2 : ({ s with P := upd s.P n p', lost := s.lost + 1 } : Fs).tot = ({ s with P := upd s.P n p' } : Fs).tot + 1 := by
      show s.lost + 1 + ((({ s with P := upd s.P n p' } : Fs).waitN : Nat) : Int) + s.arrN = s.lost + ((({ s with P := upd s.P n p' } : Fs).waitN : Nat) : Int) + s.arrN + 1
      omega
    omega
theorem DoubleF.tot {n : Nat} {k r : Int} (hr : DoubleF s n k r s') (hn : n < nP s.H s.S) : (r = 5 ∧ s'.tot = s.tot) ∨ (r = 0 ∧ s'.tot = s.tot + 1) := by
  cases hr with
  | no _ => exact .inl ⟨rfl, rfl⟩
  | yes j hj y r p' _ hy hp => exact .inr ⟨rfl, send_tot hn hp⟩
theorem takeF_tot {k : Nat} {x : It} {r : List It} (hk : k < s.H) (hA : s.A k = x :: r) : ({ s with A := upd s.A k r } : Fs).tot + 1 = s.tot := by
  have h4 := arrN_upd (s := s) (k := k) (l := r) hk
  rw [hA, List.length_cons] at h4
  show s.lost + s.waitN + ((({ s with A := upd s.A k r } : Fs).arrN : Nat) : Int) + 1 = s.lost + s.waitN + s.arrN
  omega
theorem takeF_ok {k : Nat} {x : It} {r : List It} (h : s.ok N) (hk : k < s.H) (hA : s.A k = x :: r) : ({ s with A := upd s.A k r } : Fs).ok N :=
  h.arr (by have := h.a k hk; rw [hA, List.length_cons] at this; omega) fun z hz => h.ai k hk z (by rw [hA]; exact List.mem_cons_of_mem _ hz)
end
theorem newFs_ok (H S : Nat) (room credits : Int) (trim : Bool) (hr : 0 ≤ room ∧ room ≤ 1073741824) : (newFs H S room credits trim).ok 0 := by
  refine ⟨fun i _ => newP_ok room credits trim hr, fun i _ x hx => ?_, fun k _ => Nat.le_refl _, fun k _ x hx => (by cases hx), ⟨Int.le_refl _, Int.le_refl _⟩⟩
  rcases hx with hx | ⟨j, _, hx⟩ <;> cases hx
end Go.Proofs.Ytoihhidoafgoaaa
/- The fabric (chapter 15): frames of one line, none of them a credit, with room enough: what is there, without addresses. No program in sight. -/
namespace Go.Proofs.Ytoihhidoafgoaaa
open Go.RowKit

/-- a port with one line -/
structure Lq (p : Pp) (q : List It) : Prop where
  c : p.C = []
  l : (p.L 0).map It.plain = q
  o : ∀ i, 0 < i → i < 8 → p.L i = []
theorem Lq.us {p : Pp} {q : List It} (h : Lq p q) : usum p.L = sumZ q := by
  have e : sumZ (p.L 0) = sumZ q := by
    rw [← h.l]
    unfold sumZ
    rw [List.map_map]
    rfl
  unfold usum
  rw [h.o 1 (by decide) (by decide), h.o 2 (by decide) (by decide), h.o 3 (by decide) (by decide), h.o 4 (by decide) (by decide), h.o 5 (by decide) (by decide), h.o 6 (by decide) (by decide), h.o 7 (by decide) (by decide), e, sumZ_nil]
  omega
theorem Lq.waits {p : Pp} {q : List It} (h : Lq p q) : p.waits.length = q.length ∧ p.waits = p.L 0 := by
  have e : p.waits = p.L 0 := by
    unfold Pp.waits
    simp only [wfrom]
    rw [h.o 1 (by decide) (by decide), h.o 2 (by decide) (by decide), h.o 3 (by decide) (by decide), h.o 4 (by decide) (by decide), h.o 5 (by decide) (by decide), h.o 6 (by decide) (by decide), show p.L (7 - 0) = [] from h.o 7 (by decide) (by decide), h.c]
    simp
  exact ⟨by rw [e, ← h.l, List.length_map], e⟩
theorem plain_plain (x : It) : x.plain.plain = x.plain := rfl
theorem Lq.put {p p' : Pp} {q : List It} {x : It} {r : Int} (h : Lq p q) (hr : PutRel p x r p') (hk : x.kind ≠ 11) (hp : x.prio = 0) (hu : p.u = usum p.L) (hroom : sumZ q + x.sz ≤ p.room) : r = 1 ∧ Lq p' (q ++ [x.plain]) ∧ p'.room = p.room := by
  rw [h.us] at hu
  cases hr with
  | full h1 => exact absurd h1 hk
  | cred _ h1 => exact absurd h1 hk
  | drop _ h1 => omega
  | trim _ _ h1 => omega
  | line y i _ hi hc hf hy =>
    have h0 : i = 0 := by rw [hp] at hc; unfold clampI at hc; omega
    subst h0
    refine ⟨rfl, ⟨h.c, ?_, fun j hj hj8 => ?_⟩, rfl⟩
    · show (upd p.L 0 (p.L 0 ++ [y]) 0).map It.plain = _
      rw [upd_same, List.map_append, h.l, List.map_cons, List.map_nil, hy]
    · show upd p.L 0 (p.L 0 ++ [y]) j = []
      rw [upd_other _ _ (by omega)]
      exact h.o j hj hj8
theorem Lq.take {p p' : Pp} {q : List It} {T : Int} {x : It} {b : Bool} (h : Lq p q) (hr : TakeRel p T x b p') : (q = [] ∧ b = false ∧ Lq p' q ∧ p'.room = p.room) ∨ ∃ q', q = x.plain :: q' ∧ b = true ∧ Lq p' q' ∧ p'.room = p.room := by
  cases hr with
  | cred x r a1 => rw [h.c] at a1; cases a1
  | none s _ hn =>
    refine .inl ⟨?_, rfl, ⟨h.c, h.l, h.o⟩, rfl⟩
    rw [← h.l, hn 0 (by decide)]
    rfl
  | line s i x r _ hi a3 a4 =>
    have h0 : i = 0 := by
      rcases Nat.eq_zero_or_pos i with h1 | h1
      · exact h1
      · rw [h.o i h1 hi] at a3; cases a3
    subst h0
    refine .inr ⟨r.map It.plain, by rw [← h.l, a3]; rfl, rfl, ⟨h.c, ?_, fun j hj hj8 => ?_⟩, rfl⟩
    · show (upd p.L 0 r 0).map It.plain = _
      rw [upd_same]
    · show upd p.L 0 r j = []
      rw [upd_other _ _ (by omega)]
      exact h.o j hj hj8
/-- all ports, and what arrived -/
structure Is (s : Fs) (Q A : Nat → List It) (R Lo : Int) : Prop where
  q : ∀ i, i < nP s.H s.S → Lq (s.P i) (Q i) ∧ (s.P i).room = R
  a : ∀ h, h < s.H → (s.A h).map It.plain = A h
  lost : s.lost = Lo
  fr : ∀ i, i < nP s.H s.S → ∀ x, x ∈ Q i → x.kind ≠ 11 ∧ x.prio = 0
section
variable {s s' : Fs} {Q A : Nat → List It} {R Lo : Int} {N : Nat}
theorem Is.port (h : Is s Q A R Lo) {i : Nat} {p' : Pp} {q : List It} (hq : Lq p' q) (hr : p'.room = R) (hf : ∀ x, x ∈ q → x.kind ≠ 11 ∧ x.prio = 0) : Is { s with P := upd s.P i p' } (upd Q i q) A R Lo := by
  refine ⟨fun j hj => ?_, h.a, h.lost, fun j hj x hx => ?_⟩
  · show Lq (upd s.P i p' j) _ ∧ (upd s.P i p' j).room = R
    by_cases e : j = i
    · subst e; rw [upd_same, upd_same]; exact ⟨hq, hr⟩
    · rw [upd_other _ _ e, upd_other _ _ e]; exact h.q j hj
  · by_cases e : j = i
    · subst e; rw [upd_same] at hx; exact hf x hx
    · rw [upd_other _ _ e] at hx; exact h.fr j hj x hx
theorem Is.send (h : Is s Q A R Lo) (ho : s.ok N) {k : Nat} (hk : k < nP s.H s.S) {x : It} {r : Int} {p' : Pp} (hr : PutRel (s.P k) x r p') (hx : x.kind ≠ 11 ∧ x.prio = 0) (hR : sumZ (Q k) + x.sz ≤ R) : r = 1 ∧ Is (lostBy { s with P := upd s.P k p' } r) (upd Q k (Q k ++ [x.plain])) A R Lo := by
  obtain ⟨h1, h2⟩ := h.q k hk
  obtain ⟨rfl, h3, h4⟩ := h1.put hr hx.1 hx.2 (ho.p k hk).sum (by rw [h2]; exact hR)
  refine ⟨rfl, ?_⟩
  unfold lostBy
  rw [if_neg (by decide)]
  refine h.port h3 (h4.trans h2) fun y hy => ?_
  rcases List.mem_append.1 hy with hy | hy
  · exact h.fr k hk y hy
  · rw [List.mem_singleton.1 hy]; exact hx
inductive Sv (H S : Nat) (Q A : Nat → List It) (n : Nat) : Bool → (Nat → List It) → (Nat → List It) → Prop
  | none : Q n = [] → Sv H S Q A n false (upd Q n []) A
  | arr (x : It) (q : List It) : Q n = x :: q → H ≤ n → n < 2 * H → Sv H S Q A n true (upd Q n q) (upd A (n - H) (A (n - H) ++ [x]))
  | move (x : It) (q : List It) (m : Nat) : Q n = x :: q → m < nP H S → nxt H S n x.dst.toNat x.path = ((m : Int), false) → Sv H S Q A n true (upd (upd Q n q) m (upd Q n q m ++ [x])) A
theorem Is.serve (h : Is s Q A R Lo) (ho : s.ok N) {n : Nat} {now : Int} {b : Bool} (hn : n < nP s.H s.S) (hr : ServeRel s n now b s') (hR : ∀ x q m, Q n = x :: q → m < nP s.H s.S → sumZ (upd Q n q m) + x.sz ≤ R) (hg : ∀ x q, Q n = x :: q → nxt s.H s.S n x.dst.toNat x.path ≠ (-1, false)) :
    ∃ Q' A', Sv s.H s.S Q A n b Q' A' ∧ Is s' Q' A' R Lo ∧ s'.H = s.H ∧ s'.S = s.S := by
  obtain ⟨h1, h2⟩ := h.q n hn
  cases hr with
  | none x p' ht =>
    rcases h1.take ht with ⟨e, _, h3, h4⟩ | ⟨q', _, hb, _⟩
    · rw [e] at h3
      exact ⟨_, _, .none e, h.port h3 (h4.trans h2) fun y hy => (by cases hy), rfl, rfl⟩
    · cases hb
  | arr x p' ht e1 e2 =>
    rcases h1.take ht with ⟨_, hb, _⟩ | ⟨q', e, _, h3, h4⟩
    · cases hb
    have h5 := h.port (i := n) h3 (h4.trans h2) fun y hy => h.fr n hn y (by rw [e]; exact List.mem_cons_of_mem _ hy)
    refine ⟨_, _, .arr x.plain q' e e1 e2, ⟨h5.q, fun j hj => ?_, h5.lost, h5.fr⟩, rfl, rfl⟩
    show (upd s.A (n - s.H) (s.A (n - s.H) ++ [x]) j).map It.plain = _
    by_cases e3 : j = n - s.H
    · rw [e3, upd_same, upd_same, List.map_append, h.a _ (by omega)]; rfl
    · rw [upd_other _ _ e3, upd_other _ _ e3]; exact h.a j hj
  | move x p' q r p'' ht hx hq hp =>
    rcases h1.take ht with ⟨_, hb, _⟩ | ⟨q', e, _, h3, h4⟩
    · cases hb
    have hfx := h.fr n hn x.plain (by rw [e]; exact List.mem_cons_self)
    have h5 := h.port (i := n) h3 (h4.trans h2) fun y hy => h.fr n hn y (by rw [e]; exact List.mem_cons_of_mem _ hy)
    obtain ⟨hr1, h6⟩ := h5.send (take_ok ho hn ht) hq hp hfx (hR x.plain q' q e hq)
    exact ⟨_, _, .move x.plain q' q e hq hx, h6, by unfold lostBy; split <;> rfl, by unfold lostBy; split <;> rfl⟩
  | gone x p' ht hx =>
    rcases h1.take ht with ⟨_, hb, _⟩ | ⟨q', e, _, h3, h4⟩
    · cases hb
    exact absurd hx (hg x.plain q' e)
theorem Is.waits (h : Is s Q A R Lo) {i : Nat} (hi : i < nP s.H s.S) : (s.P i).waits.length = (Q i).length := (h.q i hi).1.waits.1
theorem Is.takeF (h : Is s Q A R Lo) {k : Nat} {x : It} {r : List It} (hk : k < s.H) (hA : s.A k = x :: r) : ∃ r', A k = x.plain :: r' ∧ Is { s with A := upd s.A k r } Q (upd A k r') R Lo := by
  refine ⟨r.map It.plain, by rw [← h.a k hk, hA]; rfl, ⟨h.q, fun j hj => ?_, h.lost, h.fr⟩⟩
  show (upd s.A k r j).map It.plain = _
  by_cases e : j = k
  · subst e; rw [upd_same, upd_same]
  · rw [upd_other _ _ e, upd_other _ _ e]; exact h.a j hj
theorem Is.new (H S : Nat) (room credits : Int) (trim : Bool) : Is (newFs H S room credits trim) (fun _ => []) (fun _ => []) room 0 :=
  ⟨fun i _ => ⟨⟨rfl, rfl, fun _ _ _ => rfl⟩, rfl⟩, fun _ _ => rfl, rfl, fun i _ x hx => (by cases hx)⟩
end
end Go.Proofs.Ytoihhidoafgoaaa
/- The fabric (chapter 15): Bytes. -/
namespace Go.Proofs.Ytoihhidoafgoaaa
open Go.RowKit

def by1 (h : Int) (x : It) : Int := if x.kind = 1 ∧ x.dst = h then x.len else 0
def byL (h : Int) (l : List It) : Int := (l.map (by1 h)).sum
theorem byL_nil (h : Int) : byL h [] = 0 := rfl
theorem byL_app (h : Int) (l m : List It) : byL h (l ++ m) = byL h l + byL h m := by
  unfold byL
  rw [List.map_append, List.sum_append]
theorem byL_cons (h : Int) (x : It) (l : List It) : byL h (x :: l) = by1 h x + byL h l := by
  unfold byL
  rw [List.map_cons, List.sum_cons]
theorem by1_plain {h : Int} {x y : It} (e : x.plain = y.plain) : by1 h x = by1 h y := by
  have h1 : x.kind = y.kind := (congrArg It.kind e : x.plain.kind = y.plain.kind)
  have h2 : x.dst = y.dst := (congrArg It.dst e : x.plain.dst = y.plain.dst)
  have h3 : x.len = y.len := (congrArg It.len e : x.plain.len = y.plain.len)
  unfold by1
  rw [h1, h2, h3]
theorem byL_map (h : Int) (l : List It) : byL h l = byL h (l.map It.plain) := by
  unfold byL
  rw [List.map_map]
  rfl
theorem byL_like {h : Int} {Y W : List It} (e : Like Y W) : byL h Y = byL h W := by
  rw [byL_map h Y, byL_map h W, show Y.map It.plain = W.map It.plain from e]
theorem byL_b {h : Int} : ∀ (l : List It), (∀ x, x ∈ l → x.ok) → -(1000000000 * l.length) ≤ byL h l ∧ byL h l ≤ 1073741824 * l.length
  | [], _ => by simp [byL]
  | x :: l, hl => by
    have h1 := byL_b (h := h) l fun y hy => hl y (List.mem_cons_of_mem _ hy)
    have h2 := (hl x List.mem_cons_self).2
    have h3 : -1000000000 ≤ by1 h x ∧ by1 h x ≤ 1073741824 := by unfold by1; split <;> omega
    rw [byL_cons, List.length_cons]
    push_cast
    omega
def byN (h : Int) (P : Nat → Pp) : Nat → Int
  | 0 => 0
  | k + 1 => byN h P k + byL h (P k).waits
section
variable {f B0 : Nat} {l : Fl} {s : Fs} {w w' : World}
theorem byN_b {N : Nat} (ho : s.ok N) (h : Int) : ∀ k, k ≤ nP s.H s.S → -(1000000000 * (k * N)) ≤ byN h s.P k ∧ byN h s.P k ≤ 1073741824 * (k * N)
  | 0, _ => by simp [byN]
  | k + 1, hk => by
    have h1 := byN_b ho h k (by omega)
    have h2 := ho.p k (by omega)
    have h3 := byL_b (h := h) (s.P k).waits fun x hx => h2.items x (mem_waits hx)
    have h4 := h2.len
    rw [byN]
    have h5 : ((k + 1 : Nat) : Int) * (N : Int) = k * N + N := by push_cast; rw [Int.add_mul, Int.one_mul]
    rw [h5]
    omega
theorem bytes_no (h : Fa f B0 l s w) {k : Int} (hk : k < 0 ∨ (s.H : Int) ≤ k) : Calls Try.prog 17 #[.pointer (some ⟨f, 0, none⟩), .int .i64 k] w fun e w' => e = .returned (.int .i64 0) ∧ w = w' := by
  go_enter Try.func17, Try.ntmps17
  go_wp2_with fail
  refine (has_no h hk).mono ?_
  rintro e w1 ⟨rfl, rfl⟩
  go_wp2_with fail
  go_ret
  exact ⟨rfl, rfl⟩
set_option maxRecDepth 100000 in
set_option maxHeartbeats 4000000 in
theorem bytes_yes (h : Fa f B0 l s w) {k N : Nat} (hk : k < s.H) (ho : s.ok N) (hN : N ≤ 100000) : Calls Try.prog 17 #[.pointer (some ⟨f, 0, none⟩), .int .i64 k] w fun e w' => e = .returned (.int .i64 (byN k s.P (nP s.H s.S))) ∧ Below w.heap.size w w' := by
  have HF := Lib.hid h
  have HO := Lib.hid ho
  obtain ⟨hnp1, hnp2⟩ := h.hs.np
  have HB := Lib.hid (byN_b ho (k : Int))
  clear h ho
  go_enter Try.func17, Try.ntmps17
  go_wp2_with fail
  refine (has_yes HF.out hk).mono ?_
  rintro e w1 ⟨rfl, rfl⟩
  obtain ⟨l0, c0, c1, c2, c3⟩ := HF.out.cells
  go_wp2_with fail
  go_loopw [4, 6, 18] (fun n _ i wr => ∃ j : Nat, j ≤ nP s.H s.S ∧ i = .int .i64 j ∧ n = .int .i64 (byN k s.P j) ∧ Below w.heap.size w wr) (fun _ _ i _ => nP s.H s.S - (intOf i).toNat)
  case atStart => exact ⟨0, by omega, rfl, rfl, Below.refl _ _⟩
  case round =>
    obtain ⟨j, hj, rfl, rfl, hb⟩ := hrel
    have B1 := Lib.hid hb
    have F1 := Lib.hid (HF.out.below hb)
    have hbj := HB.out j hj
    have hjN : (j : Int) * (N : Int) ≤ 4800000 := by
      have h1 : j * N ≤ 48 * 100000 := Nat.mul_le_mul (by omega) hN
      have h2 : ((j * N : Nat) : Int) ≤ 4800000 := by omega
      push_cast at h2
      exact h2
    have hbj1 : -4800000000000000 ≤ byN k s.P j ∧ byN k s.P j ≤ 5153960755200000 := by omega
    clear hb hbj hjN
    rename World => wi
    by_cases hlt : j < nP s.H s.S
    · obtain ⟨p0, p1, p2, p3⟩ := F1.out.pcell
      have pk := p3 j hlt
      have hpo := HO.out.p j hlt
      have HPO := Lib.hid hpo
      have hle := hpo.len
      clear p3 hpo
      have hlens := HPO.out.lens (show N ≤ 1000000 by omega)
      have HLE := Lib.hid hlens
      clear hlens
      go_wp2_with fail
      refine (wait_pt (l.b j) B0 (l.l j) (s.P j) wi (F1.out.po j hlt) HLE.out.1 HLE.out.2 (fun x hx => (HPO.out.items x hx).1)).mono ?_
      rintro e w2 ⟨v, rfl, ⟨Y, hY, hov, hdY⟩, hb2⟩
      obtain ⟨av, cv, rfl, _, _⟩ := (Rd.of_own hov).form
      have HY := Lib.hid hY
      have OV := Lib.hid hov
      have B2 := Lib.hid (B1.out.trans (hb2.mono B1.out.size))
      have hyl : Y.length ≤ 100000 := by rw [hY.len]; omega
      have HSB := Lib.hid (show byN k s.P (j + 1) = byN k s.P j + byL k Y by rw [byN, byL_like hY])
      have HYO := Lib.hid (show ∀ x, x ∈ Y → x.ok from fun x hx => by
        obtain ⟨i, hi, rfl⟩ := List.mem_iff_getElem.1 hx
        obtain ⟨hw, hpl⟩ := hY.nth i hi
        exact It.ok_plain hpl (HPO.out.items _ (mem_waits (List.getElem_mem hw))))
      clear hY hov hdY hb2
      generalize hub : byN k s.P j = u at *
      clear hub
      go_wp2_with fail
      go_loopw [4, 8, 25] (fun n _ i wr => ∃ j2 : Nat, j2 ≤ Y.length ∧ i = .int .i64 j2 ∧ n = .int .i64 (u + byL k (Y.take j2)) ∧ Below w2.heap.size w2 wr) (fun _ _ i _ => Y.length - (intOf i).toNat)
      case atStart => exact ⟨0, by omega, rfl, by simp [byL], Below.refl _ _⟩
      case round =>
        obtain ⟨j2, hj2, rfl, rfl, hb3⟩ := hrel
        have B3 := Lib.hid hb3
        have hb4 := byL_b (h := (k : Int)) (Y.take j2) fun x hx => HYO.out x (List.mem_of_mem_take hx)
        rw [List.length_take, Nat.min_eq_left hj2] at hb4
        clear hb3
        rename World => wk
        by_cases hlt2 : j2 < Y.length
        · obtain ⟨g, o, hgo, hg, hc⟩ := (Rd.of_own (below_own OV.out B3.out)).row rowIt (by decide) j2 hlt2
          cases hgo
          have hxo := (HYO.out _ (List.getElem_mem hlt2)).2
          have HS := Lib.hid (show byL k (Y.take (j2 + 1)) = byL k (Y.take j2) + by1 k Y[j2] by rw [List.take_succ_eq_append_getElem hlt2, byL_app, byL_cons, byL_nil]; omega)
          generalize Y[j2] = x at hc HS hxo
          generalize byL k (Y.take j2) = t at *
          have c0 := hc 0 _ rfl
          have c1 := hc 1 _ rfl
          have c2 := hc 2 _ rfl
          have c3 := hc 3 _ rfl
          have c4 := hc 4 _ rfl
          have c5 := hc 5 _ rfl
          have c6 := hc 6 _ rfl
          have c7 := hc 7 _ rfl
          have c8 := hc 8 _ rfl
          have c9 := hc 9 _ rfl
          have c10 := hc 10 _ rfl
          rw [Nat.add_zero] at c0
          clear hc
          go_upto_region 9 with fail
          have BA := Lib.hid (B3.out.alloc B3.out.size (.cells #[.int .i64 x.kind, .int .i64 x.src, .int .i64 x.dst, .int .i64 x.prio, .int .u64 x.msg, .int .i64 x.off, .int .i64 x.len, .int .i64 x.total, .int .i64 x.num, .slice x.da x.dn x.dc, .int .i64 x.path] TIt))
          have OA := Lib.hid (Ob.new wk #[.int .i64 x.kind, .int .i64 x.src, .int .i64 x.dst, .int .i64 x.prio, .int .u64 x.msg, .int .i64 x.off, .int .i64 x.len, .int .i64 x.total, .int .i64 x.num, .slice x.da x.dn x.dc, .int .i64 x.path] TIt)
          obtain ⟨X, HX⟩ : ∃ X, Hid (wk.heap.size = X) := ⟨_, Lib.hid rfl⟩
          rw [HX.out] at OA ⊢
          clear c0 c1 c2 c3 c4 c5 c6 c7 c8 c9 c10
          generalize wk.alloc (.cells #[.int .i64 x.kind, .int .i64 x.src, .int .i64 x.dst, .int .i64 x.prio, .int .u64 x.msg, .int .i64 x.off, .int .i64 x.len, .int .i64 x.total, .int .i64 x.num, .slice x.da x.dn x.dc, .int .i64 x.path] TIt) = wa at *
          obtain ⟨lx, cx, fx⟩ := OA.out.blk
          have cx0 : wa.cell? ⟨X, 0, none⟩ = some (.int .i64 x.kind) := cx 0
          have cx1 : wa.cell? ⟨X, 1, none⟩ = some (.int .i64 x.src) := cx 1
          have cx2 : wa.cell? ⟨X, 2, none⟩ = some (.int .i64 x.dst) := cx 2
          have cx3 : wa.cell? ⟨X, 3, none⟩ = some (.int .i64 x.prio) := cx 3
          have cx4 : wa.cell? ⟨X, 4, none⟩ = some (.int .u64 x.msg) := cx 4
          have cx5 : wa.cell? ⟨X, 5, none⟩ = some (.int .i64 x.off) := cx 5
          have cx6 : wa.cell? ⟨X, 6, none⟩ = some (.int .i64 x.len) := cx 6
          have cx7 : wa.cell? ⟨X, 7, none⟩ = some (.int .i64 x.total) := cx 7
          have cx8 : wa.cell? ⟨X, 8, none⟩ = some (.int .i64 x.num) := cx 8
          have cx9 : wa.cell? ⟨X, 9, none⟩ = some (.slice x.da x.dn x.dc) := cx 9
          have cx10 : wa.cell? ⟨X, 10, none⟩ = some (.int .i64 x.path) := cx 10
          clear cx
          obtain ⟨hx1, hx2⟩ := hxo
          by_cases hkd : x.kind = 1
          · have hkb : (x.kind == 1) = true := beq_iff_eq.2 hkd
            by_cases hds : x.dst = k
            · have hdb : (x.dst == (k : Int)) = true := beq_iff_eq.2 hds
              have HV := Lib.hid (show by1 k x = x.len by unfold by1; rw [if_pos ⟨hkd, hds⟩])
              clear hkd hds
              go_wp2_with fail
              go_roundw
              case rel => exact ⟨j2 + 1, by omega, by go_num, by rw [HS.out, HV.out]; congr 1; omega, BA.out⟩
              case measure => simp [intOf]; omega
            · have hdb : (x.dst == (k : Int)) = false := beq_eq_false_iff_ne.2 hds
              have HV := Lib.hid (show by1 k x = 0 by unfold by1; rw [if_neg fun hh => hds hh.2])
              clear hkd hds
              go_wp2_with fail
              go_roundw
              case rel => exact ⟨j2 + 1, by omega, by go_num, by rw [HS.out, HV.out]; congr 1; omega, BA.out⟩
              case measure => simp [intOf]; omega
          · have hkb : (x.kind == 1) = false := beq_eq_false_iff_ne.2 hkd
            have HV := Lib.hid (show by1 k x = 0 by unfold by1; rw [if_neg fun hh => hkd hh.1])
            clear hkd
            go_wp2_with fail
            go_roundw
            case rel => exact ⟨j2 + 1, by omega, by go_num, by rw [HS.out, HV.out]; congr 1; omega, BA.out⟩
            case measure => simp [intOf]; omega
        · obtain rfl : j2 = Y.length := by omega
          have HTK := Lib.hid (show Y.take Y.length = Y from List.take_length)
          rw [HTK.out]
          go_wp2_with fail
          go_roundw
          case rel => exact ⟨j + 1, by omega, by go_num, by rw [HSB.out], B2.out.trans (B3.out.mono B2.out.size)⟩
          case measure => simp [intOf]; omega
    · obtain rfl : j = nP s.H s.S := by omega
      go_wp2_with fail
      go_ret
      exact ⟨rfl, B1.out⟩
end
end Go.Proofs.Ytoihhidoafgoaaa
/- The fabric (chapter 15): each call at a fabric whose frames go by one line. -/
namespace Go.Proofs.Ytoihhidoafgoaaa
open Go.RowKit

structure Fi (f B0 H S : Nat) (Q A : Nat → List It) (R Lo : Int) (N : Nat) (W0 w : World) : Prop where
  ex : ∃ (l : Fl) (s : Fs), Fa f B0 l s w ∧ Is s Q A R Lo ∧ s.ok N ∧ s.H = H ∧ s.S = S
  bel : Below W0.heap.size W0 w
  base : W0.heap.size ≤ B0
section
variable {f B0 H S : Nat} {Q A : Nat → List It} {R Lo : Int} {N : Nat} {W0 w w' : World}
theorem Fi.below (h : Fi f B0 H S Q A R Lo N W0 w) (hb : Below w.heap.size w w') : Fi f B0 H S Q A R Lo N W0 w' := by
  obtain ⟨⟨l, s, h1, h2, h3, h4, h5⟩, h6, h7⟩ := h
  exact ⟨⟨l, s, h1.below hb, h2, h3, h4, h5⟩, h6.trans (hb.mono h6.size), h7⟩
theorem Fi.dn (h : Fi f B0 H S Q A R Lo N W0 w) (n : Nat) : Fi f B0 H S Q A R Lo N W0 (w.drewN n) := h.below (below_dn (Below.refl _ _))
theorem Fi.mono (h : Fi f B0 H S Q A R Lo N W0 w) {M : Nat} (hM : N ≤ M) : Fi f B0 H S Q A R Lo M W0 w := by
  obtain ⟨⟨l, s, h1, h2, h3, h4, h5⟩, h6, h7⟩ := h
  exact ⟨⟨l, s, h1, h2, h3.mono hM, h4, h5⟩, h6, h7⟩
theorem FaPost.bel {l : Fl} {s s' : Fs} (h : FaPost f B0 l s s' w w') (hf : Fa f B0 l s w) (h6 : Below W0.heap.size W0 w) (h7 : W0.heap.size ≤ B0) : Below W0.heap.size W0 w' := by
  obtain ⟨l', h1, h2, h3⟩ := h
  exact h6.trans (h2.belowAt h6.size fun x hx => Nat.le_trans h7 (hf.ge hx))
def byN' (h : Int) (Q : Nat → List It) : Nat → Int
  | 0 => 0
  | k + 1 => byN' h Q k + byL h (Q k)
theorem fi_new (H S : Nat) (room credits : Int) (trim : Bool) (w : World) (hs : Hs H S) (hr : 0 ≤ room ∧ room ≤ 1073741824) (hc : 0 ≤ credits ∧ credits ≤ 1073741824) : Calls Try.prog 8 #[.int .i64 H, .int .i64 S, .int .i64 room, .int .i64 credits, .bool trim] w fun e w' => ∃ f, e = .returned (.tuple #[.pointer (some ⟨f, 0, none⟩), .int .i64 0]) ∧ Fi f w.heap.size H S (fun _ => []) (fun _ => []) room 0 0 w w' := by
  refine (new_fa H S room credits trim w hs hr hc).mono ?_
  rintro e w' ⟨f, l, rfl, h1, h2⟩
  exact ⟨f, rfl, ⟨l, _, h1, Is.new H S room credits trim, newFs_ok H S room credits trim hr, rfl, rfl⟩, h2, Nat.le_refl _⟩
theorem fi_send (h : Fi f B0 H S Q A R Lo N W0 w) {k d : Nat} {x : It} (hs : Hs H S) (hk : k < H) (hd : d < H) (hxd : x.dst = d) (hne : d ≠ k) (hf : okF x.fr) (hdn : x.dn = x.bs.length) (hr : Rd w 1 (.slice x.da x.dn x.dc) x.dn (bcells x.bs)) (hN : N ≤ 1000000) (hx : x.kind ≠ 11 ∧ x.prio = 0) (hR : sumZ (Q k) + x.sz ≤ R) :
    Calls Try.prog 10 #[.pointer (some ⟨f, 0, none⟩), .int .i64 k, x.frv, .int .i64 x.path] w fun e w' => e = .returned (.tuple #[.int .i64 1, .int .i64 0]) ∧ Fi f B0 H S (upd Q k (Q k ++ [x.plain])) A R Lo (N + 2) W0 w' := by
  obtain ⟨⟨l, s, h1, h2, h3, rfl, rfl⟩, h6, h7⟩ := h
  have hkp : k < nP s.H s.S := by rw [nP_ls]; omega
  have hl := h3.lost
  refine (send_yes h1 hk hd hxd hne hf hdn hr (h3.p k hkp) hN (by omega)).mono ?_
  rintro e w' ⟨r, p', rfl, hr, hp⟩
  obtain ⟨rfl, h8⟩ := h2.send h3 hkp hr hx hR
  have hb := hp.bel h1 h6 h7
  obtain ⟨l', h9, _, _⟩ := hp
  exact ⟨rfl, ⟨l', _, h9, h8, send_ok h3 hkp (ok_fr hf hdn) (by omega) hr, by unfold lostBy; split <;> rfl, by unfold lostBy; split <;> rfl⟩, hb, h7⟩
theorem fi_serve (h : Fi f B0 H S Q A R Lo N W0 w) {n : Nat} {now : Int} (hn : n < nP H S) (hN : N ≤ 1000000) (hR : ∀ x q m, Q n = x :: q → m < nP H S → sumZ (upd Q n q m) + x.sz ≤ R) (hg : ∀ x q, Q n = x :: q → nxt H S n x.dst.toNat x.path ≠ (-1, false)) :
    Calls Try.prog 12 #[.pointer (some ⟨f, 0, none⟩), .int .i64 n, .int .i64 now] w fun e w' => ∃ b Q' A', e = .returned (.tuple #[.bool b, .int .i64 0]) ∧ Sv H S Q A n b Q' A' ∧ Fi f B0 H S Q' A' R Lo (N + 2) W0 w' := by
  obtain ⟨⟨l, s, h1, h2, h3, rfl, rfl⟩, h6, h7⟩ := h
  refine (serve_yes h1 hn h3 hN).mono ?_
  rintro e w' ⟨b, s', rfl, hr, hp⟩
  obtain ⟨Q', A', h8, h9, h10, h11⟩ := h2.serve h3 hn hr hR hg
  have hb := hp.bel h1 h6 h7
  obtain ⟨l', h12, _, _⟩ := hp
  exact ⟨b, Q', A', rfl, h8, ⟨l', s', h12, h9, hr.ok h3 hn, h10, h11⟩, hb, h7⟩
theorem fi_take (h : Fi f B0 H S Q A R Lo N W0 w) {k : Nat} {x : It} {r : List It} (hk : k < H) (hA : A k = x :: r) (hN : N ≤ 1000000) :
    Calls Try.prog 13 #[.pointer (some ⟨f, 0, none⟩), .int .i64 k] w fun e w' => ∃ y : It, e = .returned (.tuple #[y.frv, .bool true]) ∧ y.plain = x ∧ Rd w' 1 (.slice y.da y.dn y.dc) y.dn (bcells y.bs) ∧ Fi f B0 H S Q (upd A k r) R Lo N W0 w' := by
  obtain ⟨⟨l, s, h1, h2, h3, rfl, rfl⟩, h6, h7⟩ := h
  have hm := h2.a k hk
  rw [hA] at hm
  obtain ⟨y, r', hs, hy, hr'⟩ : ∃ y r', s.A k = y :: r' ∧ y.plain = x ∧ r'.map It.plain = r := by
    cases hs : s.A k with
    | nil => rw [hs] at hm; cases hm
    | cons y r' =>
      rw [hs, List.map_cons] at hm
      exact ⟨y, r', rfl, (List.cons.inj hm).1, (List.cons.inj hm).2⟩
  have hle := h3.a k hk
  refine (take_yes h1 hk hs (by omega)).mono ?_
  rintro e w' ⟨rfl, hp⟩
  have hb := hp.bel h1 h6 h7
  obtain ⟨l', h9, h10, _⟩ := hp
  obtain ⟨r2, e2, h8⟩ := h2.takeF hk hs
  rw [hA, ← hy] at e2
  cases e2
  have hda := (h1.data k y hk (by rw [hs]; exact List.mem_cons_self)).keptT h10 fun g hg _ => h1.ty hg
  exact ⟨y, rfl, hy, Rd.of_own hda, ⟨l', _, h9, h8, takeF_ok h3 hk hs, rfl, rfl⟩, hb, h7⟩
theorem fi_take_no (h : Fi f B0 H S Q A R Lo N W0 w) {k : Nat} (hk : k < H) (hA : A k = []) :
    Calls Try.prog 13 #[.pointer (some ⟨f, 0, none⟩), .int .i64 k] w (TakeNo w) := by
  obtain ⟨⟨l, s, h1, h2, h3, rfl, rfl⟩, h6, h7⟩ := h
  have hm := h2.a k hk
  rw [hA] at hm
  exact take_no1 h1 hk (List.map_eq_nil_iff.1 hm)
theorem fi_ports (h : Fi f B0 H S Q A R Lo N W0 w) : Calls Try.prog 11 #[.pointer (some ⟨f, 0, none⟩)] w fun e w' => e = .returned (.int .i64 (nP H S)) ∧ w = w' := by
  obtain ⟨⟨l, s, h1, h2, h3, rfl, rfl⟩, h6, h7⟩ := h
  exact ports_fa h1
theorem fi_lost (h : Fi f B0 H S Q A R Lo N W0 w) : Calls Try.prog 15 #[.pointer (some ⟨f, 0, none⟩)] w fun e w' => e = .returned (.int .i64 Lo) ∧ w = w' := by
  obtain ⟨⟨l, s, h1, h2, h3, rfl, rfl⟩, h6, h7⟩ := h
  have := lost_fa h1
  rw [h2.lost] at this
  exact this
theorem fi_waiting (h : Fi f B0 H S Q A R Lo N W0 w) (hN : N ≤ 1000000) {k : Nat} (hk : k < nP H S) : Calls Try.prog 16 #[.pointer (some ⟨f, 0, none⟩), .int .i64 k] w fun e w' => e = .returned (.int .i64 (Q k).length) ∧ ∃ m, w' = w.drewN m := by
  obtain ⟨⟨l, s, h1, h2, h3, rfl, rfl⟩, h6, h7⟩ := h
  have := waiting_yes h1 (h3.lens hN) hk
  rw [h2.waits hk] at this
  exact this
theorem sumN_zero (g : Nat → Nat) (n : Nat) (h : ∀ i, i < n → g i = 0) : sumN g n = 0 := by
  have := sumN_le g 0 n fun i hi => Nat.le_of_eq (h i hi)
  omega
theorem fi_empty (h : Fi f B0 H S Q A R Lo N W0 w) (hN : N ≤ 1000000) (hQ : ∀ i, i < nP H S → Q i = []) (hA : ∀ i, i < H → A i = []) : Calls Try.prog 14 #[.pointer (some ⟨f, 0, none⟩)] w fun e w' => e = .returned (.bool true) ∧ ∃ m, w' = w.drewN m := by
  obtain ⟨⟨l, s, h1, h2, h3, rfl, rfl⟩, h6, h7⟩ := h
  have := empty_fa h1 (h3.lens hN)
  have e1 : s.waitN = 0 := sumN_zero _ _ fun i hi => by show (s.P i).waits.length = 0; rw [h2.waits hi, hQ i hi]; rfl
  have e2 : s.arrN = 0 := sumN_zero _ _ fun i hi => by
    have h9 := h2.a i hi
    rw [hA i hi] at h9
    show (s.A i).length = 0
    rw [List.map_eq_nil_iff.1 h9]
    rfl
  rw [e1, e2] at this
  exact this
theorem byN_Q {s : Fs} (h2 : Is s Q A R Lo) (k : Int) : ∀ n, n ≤ nP s.H s.S → byN k s.P n = byN' k Q n
  | 0, _ => rfl
  | n + 1, hn => by
    rw [byN, byN', byN_Q h2 k n (by omega), (h2.q n (by omega)).1.waits.2, byL_map, (h2.q n (by omega)).1.l]
theorem fi_bytes (h : Fi f B0 H S Q A R Lo N W0 w) (hN : N ≤ 100000) {k : Nat} (hk : k < H) : Calls Try.prog 17 #[.pointer (some ⟨f, 0, none⟩), .int .i64 k] w fun e w' => e = .returned (.int .i64 (byN' k Q (nP H S))) ∧ Below w.heap.size w w' := by
  obtain ⟨⟨l, s, h1, h2, h3, rfl, rfl⟩, h6, h7⟩ := h
  have := bytes_yes h1 hk h3 hN
  rw [byN_Q h2 k _ (Nat.le_refl _)] at this
  exact this
theorem fi_drop (h : Fi f B0 H S Q A R Lo N W0 w) (hN : N ≤ 1000000) {n : Nat} (hn : n < nP H S) {x : It} (hq : Q n = [x]) : Calls Try.prog 18 #[.pointer (some ⟨f, 0, none⟩), .int .i64 n, .int .i64 0] w fun e w' => e = .returned (.int .i64 0) ∧ Fi f B0 H S (upd Q n []) A R (Lo + 1) (N + 2) W0 w' := by
  obtain ⟨⟨l, s, h1, h2, h3, rfl, rfl⟩, h6, h7⟩ := h
  refine (dropf_yes h1 hn h3 hN (k := 0)).mono ?_
  rintro e w' ⟨r, s', rfl, hr, hp⟩
  have hb := hp.bel h1 h6 h7
  obtain ⟨l', h12, _, _⟩ := hp
  obtain ⟨hL, hroom⟩ := h2.q n hn
  have hw := hL.waits
  have hl0 : (s.P n).waits.length = 1 := by rw [hw.1, hq]; rfl
  have hok := hr.ok h3 hn
  cases hr with
  | no y p' hd =>
    rcases hd with ⟨h8, _⟩ | ⟨_, _, h8, _⟩
    · rw [hl0] at h8; omega
    · cases h8
  | yes y p' hd =>
    rcases hd with ⟨_, _, h8, _⟩ | ⟨_, _, _, hd⟩
    · cases h8
    have hp' : Lq p' [] ∧ p'.room = R := by
      cases hd with
      | line i j hj hi he =>
        have hi0 : i = 0 := by
          rcases Nat.eq_zero_or_pos i with h1 | h1
          · exact h1
          · rw [hL.o i h1 hi] at hj; exact absurd hj (Nat.not_lt_zero _)
        subst hi0
        have hlen : ((s.P n).L 0).length = 1 := by rw [← hw.2]; exact hl0
        obtain rfl : j = 0 := by omega
        refine ⟨⟨hL.c, ?_, fun k hk hk8 => ?_⟩, hroom⟩
        · show (upd (s.P n).L 0 _ 0).map It.plain = []
          rw [upd_same, List.take_zero, List.nil_append, List.drop_of_length_le (by omega)]
          rfl
        · show upd (s.P n).L 0 _ k = []
          rw [upd_other _ _ (by omega)]
          exact hL.o k hk hk8
      | cred j hj _ => rw [hL.c] at hj; exact absurd hj (Nat.not_lt_zero _)
    have h9 := h2.port (i := n) hp'.1 hp'.2 (fun x hx => by cases hx)
    exact ⟨rfl, ⟨l', _, h12, ⟨h9.q, h9.a, by show s.lost + 1 = Lo + 1; rw [h2.lost], h9.fr⟩, hok, rfl, rfl⟩, hb, h7⟩
theorem fi_drop_no (h : Fi f B0 H S Q A R Lo N W0 w) (hN : N ≤ 1000000) {n : Nat} (hn : n < nP H S) (hq : Q n = []) : Calls Try.prog 18 #[.pointer (some ⟨f, 0, none⟩), .int .i64 n, .int .i64 0] w fun e w' => e = .returned (.int .i64 5) ∧ Fi f B0 H S Q A R Lo (N + 2) W0 w' := by
  obtain ⟨⟨l, s, h1, h2, h3, rfl, rfl⟩, h6, h7⟩ := h
  refine (dropf_yes h1 hn h3 hN (k := 0)).mono ?_
  rintro e w' ⟨r, s', rfl, hr, hp⟩
  have hb := hp.bel h1 h6 h7
  obtain ⟨l', h12, _, _⟩ := hp
  have hl0 : (s.P n).waits.length = 0 := by rw [h2.waits hn, hq]; rfl
  have hok := hr.ok h3 hn
  cases hr with
  | no y p' hd =>
    rcases hd with ⟨_, _, _, rfl⟩ | ⟨_, _, h8, _⟩
    · have e9 : ({ s with P := upd s.P n (s.P n) } : Fs) = s := by
        have : upd s.P n (s.P n) = s.P := by funext k; unfold upd; split <;> simp_all
        rw [this]
      rw [e9] at h12 hok
      exact ⟨rfl, ⟨l', s, h12, h2, hok, rfl, rfl⟩, hb, h7⟩
    · cases h8
  | yes y p' hd =>
    rcases hd with ⟨_, _, h8, _⟩ | ⟨_, h8, _, _⟩
    · cases h8
    · rw [hl0] at h8; omega
end
end Go.Proofs.Ytoihhidoafgoaaa
/- The fabric (chapter 15): the statements' own example. -/
namespace Go.Proofs.Ytoihhidoafgoaaa
open Go.RowKit

def fAck : It := ⟨5, 0, 1, 0, 5, 0, 0, 0, 0, none, 0, 0, 0, []⟩
theorem hs21 : Hs 2 1 := ⟨by decide, by decide⟩
set_option maxRecDepth 100000 in
set_option maxHeartbeats 4000000 in
theorem awake_f (w : World) : Calls Try.prog 7 #[] w fun e w' => e = .returned (.bool true) ∧ Below w.heap.size w w' := by
  go_enter Try.func7, Try.ntmps7
  go_wp2_with fail
  refine (fi_new 2 1 1000 2 false w hs21 (by decide) (by decide)).mono ?_
  rintro e w1 ⟨f, rfl, h1⟩
  have F1 := Lib.hid h1
  clear h1
  have hsd := fi_send F1.out (k := 0) (d := 1) (x := fAck) hs21 (by decide) (by decide) rfl (by decide) ((okF_iff _ (by decide)).2 (by decide)) rfl (Rd.nil _ _) (by decide) (by decide) (by decide)
  unfold It.frv at hsd
  go_wp2_with fail
  refine (hsd).mono ?_
  rintro e w2 ⟨rfl, h2⟩
  have F2 : Hid (Fi f w.heap.size 2 1 (upd (fun _ => []) 0 [fAck]) (fun _ => []) 1000 0 2 w w2) := Lib.hid h2
  clear h2 hsd
  have hq1 : ∀ x q, (upd (fun _ => []) 0 [fAck] : Nat → List It) 0 = x :: q → x = fAck ∧ q = [] := fun _ _ h => by
    rw [upd_same] at h; cases h; exact ⟨rfl, rfl⟩
  have HQ1 := Lib.hid hq1
  clear hq1
  have hsv := fi_serve F2.out (n := 0) (now := 0) (by decide) (by decide) (fun x q m hq _ => by
    obtain ⟨rfl, rfl⟩ := HQ1.out _ _ hq
    have : upd (upd (fun _ => []) 0 [fAck]) 0 [] m = ([] : List It) := by unfold upd; split <;> rfl
    rw [this]
    decide) (fun x q hq => by
    obtain ⟨rfl, rfl⟩ := HQ1.out _ _ hq
    decide)
  go_wp2_with fail
  refine (hsv).mono ?_
  rintro e w3 ⟨b, Q3, A3, rfl, hs3, h3⟩
  have F3 := Lib.hid h3
  have key : b = true ∧ A3 = (fun _ => []) ∧ Q3 3 = [fAck] ∧ ∀ i, i ≠ 3 → Q3 i = [] := by
    cases hs3 with
    | none hq => rw [upd_same] at hq; cases hq
    | arr x q hq h4 _ => exact absurd h4 (by decide)
    | move x q m hq hm hn =>
      obtain ⟨rfl, rfl⟩ := HQ1.out _ _ hq
      have hm3 : m = 3 := by
        have : nxt 2 1 0 fAck.dst.toNat fAck.path = (3, false) := rfl
        rw [this] at hn
        have := (Prod.mk.inj hn).1
        omega
      subst hm3
      refine ⟨rfl, rfl, by rw [upd_same, upd_other _ _ (by decide), upd_other _ _ (by decide)]; rfl, fun i hi => ?_⟩
      rw [upd_other _ _ hi]
      unfold upd
      split <;> rfl
  obtain ⟨rfl, rfl, hq3, hq3'⟩ := key
  have HQ3 := Lib.hid hq3
  have HQ3' := Lib.hid hq3'
  clear hs3 h3 hsv hq3 hq3'
  have hsv := fi_serve F3.out (n := 3) (now := 0) (by decide) (by decide) (fun x q m hq _ => by
    rw [HQ3.out] at hq
    cases hq
    have : upd Q3 3 [] m = ([] : List It) := by
      unfold upd
      split
      · rfl
      · rename_i hne; exact HQ3'.out m hne
    rw [this]
    decide) (fun x q hq => by
    rw [HQ3.out] at hq
    cases hq
    decide)
  go_wp2_with fail
  refine (hsv).mono ?_
  rintro e w4 ⟨b, Q4, A4, rfl, hs4, h4⟩
  have F4 := Lib.hid h4
  have key : b = true ∧ A4 = upd (fun _ => []) 1 [fAck] ∧ ∀ i, Q4 i = [] := by
    cases hs4 with
    | none hq => rw [HQ3.out] at hq; cases hq
    | arr x q hq h4 _ =>
      rw [HQ3.out] at hq
      cases hq
      refine ⟨rfl, rfl, fun i => ?_⟩
      unfold upd
      split
      · rfl
      · rename_i hne; exact HQ3'.out i hne
    | move x q m hq hm hn =>
      rw [HQ3.out] at hq
      cases hq
      have : nxt 2 1 3 fAck.dst.toNat fAck.path = (-1, true) := rfl
      rw [this] at hn
      cases (Prod.mk.inj hn).2
  obtain ⟨rfl, rfl, hq4⟩ := key
  have HQ4 := Lib.hid hq4
  clear hs4 h4 hsv hq4
  go_wp2_with fail
  refine (fi_take F4.out (k := 1) (x := fAck) (r := []) (by decide) rfl (by decide)).mono ?_
  rintro e w5 ⟨x, rfl, hy, _, h5⟩
  have F5 := Lib.hid h5
  have hmsg : (x.msg == 5) = true := by have : x.msg = 5 := congrArg It.msg hy; rw [this]; rfl
  clear h5 hy
  unfold It.frv
  go_upto_region 8 with fail
  have OX := Lib.hid (Ob.new w5 #[.int .i64 x.kind, .int .i64 x.src, .int .i64 x.dst, .int .i64 x.prio, .int .u64 x.msg, .int .i64 x.off, .int .i64 x.len, .int .i64 x.total, .int .i64 x.num, .slice x.da x.dn x.dc] TFr)
  have F6 := Lib.hid (F5.out.below ((Below.refl _ w5).alloc (Nat.le_refl _) (.cells #[.int .i64 x.kind, .int .i64 x.src, .int .i64 x.dst, .int .i64 x.prio, .int .u64 x.msg, .int .i64 x.off, .int .i64 x.len, .int .i64 x.total, .int .i64 x.num, .slice x.da x.dn x.dc] TFr)))
  obtain ⟨X, HX⟩ : ∃ X, Hid (w5.heap.size = X) := ⟨_, Lib.hid rfl⟩
  rw [HX.out] at OX ⊢
  generalize w5.alloc (.cells #[.int .i64 x.kind, .int .i64 x.src, .int .i64 x.dst, .int .i64 x.prio, .int .u64 x.msg, .int .i64 x.off, .int .i64 x.len, .int .i64 x.total, .int .i64 x.num, .slice x.da x.dn x.dc] TFr) = w6 at *
  obtain ⟨lx, cx, fx⟩ := OX.out.blk
  have cx4 : w6.cell? ⟨X, 4, none⟩ = some (.int .u64 x.msg) := cx 4
  clear cx
  go_wp2_with fail
  refine (fi_empty F6.out (by decide) (fun i _ => HQ4.out i) (fun i _ => by unfold upd; split <;> (try split) <;> rfl)).mono ?_
  rintro e w7 ⟨rfl, hm⟩
  have F7 : Hid (Fi f w.heap.size 2 1 Q4 (upd (upd (fun _ => []) 1 [fAck]) 1 []) 1000 0 (2 + 2 + 2) w w7) := by obtain ⟨m, rfl⟩ := hm; exact Lib.hid (F6.out.dn m)
  clear hm lx fx cx4
  go_wp2_with fail
  refine (fi_ports F7.out).mono ?_
  rintro e w8 ⟨rfl, rfl⟩
  go_wp2_with fail
  go_ret
  exact ⟨rfl, F7.out.bel⟩
end Go.Proofs.Ytoihhidoafgoaaa
