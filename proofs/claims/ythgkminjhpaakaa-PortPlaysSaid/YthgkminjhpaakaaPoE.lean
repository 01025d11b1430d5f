/- A port (chapter 13): Put whatever comes; Twice, Double. -/
import Derived.Test.YthgkminjhpaakaaPoG
import Derived.Test.YthgkminjhpaakaaPoI
import Derived.Test.YthgkminjhpaakaaPoD
namespace Go.Proofs.Ythgkminjhpaakaa
open Go.RowKit

theorem plain_data (x : It) (a : Option Addr) (c : Nat) : (x.data a c).plain = x.plain := rfl
theorem It.sz_plain {x y : It} (h : y.plain = x.plain) : y.sz = x.sz := by
  have h1 : y.kind = x.kind := show y.plain.kind = x.plain.kind from congrArg It.kind h
  have h2 : y.len = x.len := show y.plain.len = x.plain.len from congrArg It.len h
  unfold It.sz It.bytes
  rw [h1, h2]
def It.ok (x : It) : Prop := x.dn ≤ 1073741824 ∧ -1000000000 ≤ x.len ∧ x.len ≤ 1073741824
theorem It.ok_plain {x y : It} (h : y.plain = x.plain) (hx : x.ok) : y.ok := by
  have h1 : y.dn = x.dn := show y.plain.dn = x.plain.dn from congrArg It.dn h
  have h2 : y.len = x.len := show y.plain.len = x.plain.len from congrArg It.len h
  unfold It.ok at *
  rw [h1, h2]
  exact hx
def sumZ (l : List It) : Int := (l.map It.sz).sum
theorem sumZ_app (l m : List It) : sumZ (l ++ m) = sumZ l + sumZ m := by simp [sumZ]
theorem sumZ_cons (x : It) (l : List It) : sumZ (x :: l) = x.sz + sumZ l := by simp [sumZ]
theorem sumZ_nil : sumZ [] = 0 := rfl
theorem sumZ_nn : ∀ l : List It, 0 ≤ sumZ l
  | [] => Int.le_refl _
  | x :: l => by rw [sumZ_cons]; have := sumZ_nn l; have := szIt x; omega
theorem sumZ_mem : ∀ {l : List It} {x : It}, x ∈ l → x.sz ≤ sumZ l
  | y :: l, x, h => by
    rw [sumZ_cons]
    have := sumZ_nn l
    have := szIt y
    rcases List.mem_cons.1 h with rfl | h
    · omega
    · have := sumZ_mem h; omega
def usum (L : Nat → List It) : Int := sumZ (L 0) + sumZ (L 1) + sumZ (L 2) + sumZ (L 3) + sumZ (L 4) + sumZ (L 5) + sumZ (L 6) + sumZ (L 7)
theorem usum_upd (L : Nat → List It) {i : Nat} (hi : i < 8) (l : List It) : usum (upd L i l) = usum L - sumZ (L i) + sumZ l := by
  rcases eight hi with rfl | rfl | rfl | rfl | rfl | rfl | rfl | rfl
  all_goals
    simp only [usum, upd]
    simp
    try omega
theorem usum_mem {L : Nat → List It} {i : Nat} (hi : i < 8) {x : It} (h : x ∈ L i) : x.sz ≤ usum L := by
  have h1 := sumZ_mem h
  have := sumZ_nn (L 0); have := sumZ_nn (L 1); have := sumZ_nn (L 2); have := sumZ_nn (L 3); have := sumZ_nn (L 4); have := sumZ_nn (L 5); have := sumZ_nn (L 6); have := sumZ_nn (L 7)
  unfold usum
  rcases eight hi with rfl | rfl | rfl | rfl | rfl | rfl | rfl | rfl
  all_goals omega
structure Pp.ok (N : Nat) (p : Pp) : Prop where
  room : 0 ≤ p.room ∧ p.room ≤ 1099511627776
  u : p.u ≤ p.room
  sum : p.u = usum p.L
  len : p.waits.length ≤ N
  items : ∀ x, p.has x → x.ok
section
variable {N : Nat} {p : Pp}
theorem Pp.ok.u0 (h : p.ok N) : 0 ≤ p.u := by
  rw [h.sum]
  have := sumZ_nn (p.L 0); have := sumZ_nn (p.L 1); have := sumZ_nn (p.L 2); have := sumZ_nn (p.L 3); have := sumZ_nn (p.L 4); have := sumZ_nn (p.L 5); have := sumZ_nn (p.L 6); have := sumZ_nn (p.L 7)
  unfold usum
  omega
theorem Pp.ok.lens (h : p.ok N) (hN : N ≤ 1000000) : p.lens := by
  have h1 := h.len
  unfold Pp.waits at h1
  rw [List.length_append] at h1
  refine ⟨fun i hi => ?_, by omega⟩
  have := line_le (L := p.L) hi
  omega
theorem Pp.ok.mono (h : p.ok N) {N' : Nat} (hN : N ≤ N') : p.ok N' := ⟨h.room, h.u, h.sum, Nat.le_trans h.len hN, h.items⟩
theorem mem_waits {x : It} (h : x ∈ p.waits) : p.has x := by
  rcases List.mem_append.1 h with h | h
  · obtain ⟨i, hi, h⟩ := wfrom_of h
    exact .inr ⟨i, hi, h⟩
  · exact .inl h
end
inductive PutRel (p : Pp) (x : It) : Int → Pp → Prop
  | full : x.kind = 11 → p.most ≤ p.C.length → PutRel p x 3 p
  | cred (y : It) : x.kind = 11 → (p.C.length : Int) < p.most → y.plain = x.plain → PutRel p x 1 { p with C := p.C ++ [y] }
  | line (y : It) (i : Nat) : x.kind ≠ 11 → i < 8 → clampI x.prio 0 7 = i → x.sz ≤ p.room - p.u → y.plain = x.plain → PutRel p x 1 { p with u := p.u + x.sz, L := upd p.L i (p.L i ++ [y]) }
  | drop : x.kind ≠ 11 → p.room - p.u < x.sz → (x.kind ≠ 1 ∨ p.trim = false ∨ p.room - p.u < 26) → PutRel p x 3 p
  | trim : x.kind = 1 → p.trim = true → p.room - p.u < x.sz → 26 ≤ p.room - p.u → PutRel p x 2 { p with u := p.u + 26, L := upd p.L 7 (p.L 7 ++ [x.hdr 7]) }
theorem hdr_sz (x : It) : (x.hdr 7).sz = 26 := sz_head (by decide : (7 : Int) ≠ 1)
theorem PutRel.ok {N : Nat} {p p' : Pp} {x : It} {r : Int} (h : PutRel p x r p') (hp : p.ok N) (hx : x.ok) : p'.ok (N + 1) := by
  have hl := hp.len
  have hw : ∀ (L : Nat → List It) (C : List It), ({ p with L := L, C := C } : Pp).waits = wfrom L 8 ++ C := fun _ _ => rfl
  cases h with
  | full => exact hp.mono (Nat.le_succ _)
  | drop => exact hp.mono (Nat.le_succ _)
  | cred y _ _ hy =>
    refine ⟨hp.room, hp.u, hp.sum, ?_, fun z hz => ?_⟩
    · show (wfrom p.L 8 ++ (p.C ++ [y])).length ≤ _
      unfold Pp.waits at hl
      simp only [List.length_append, List.length_singleton] at *
      omega
    · rcases hz with hz | hz
      · rcases List.mem_append.1 hz with hz | hz
        · exact hp.items z (.inl hz)
        · rw [List.mem_singleton.1 hz]; exact It.ok_plain hy hx
      · exact hp.items z (.inr hz)
  | line y i _ hi _ hf hy =>
    refine ⟨hp.room, by show p.u + x.sz ≤ p.room; omega, ?_, ?_, fun z hz => ?_⟩
    · show p.u + x.sz = usum (upd p.L i (p.L i ++ [y]))
      rw [usum_upd _ hi, sumZ_app, sumZ_cons, sumZ_nil, It.sz_plain hy, hp.sum]
      omega
    · show (wfrom (upd p.L i (p.L i ++ [y])) 8 ++ p.C).length ≤ _
      unfold Pp.waits at hl
      rw [List.length_append, wfrom_push _ _ hi]
      rw [List.length_append] at hl
      omega
    · rcases hz with hz | ⟨j, hj, hz⟩
      · exact hp.items z (.inl hz)
      · replace hz : z ∈ upd p.L i (p.L i ++ [y]) j := hz
        by_cases hji : j = i
        · subst hji
          rw [upd_same] at hz
          rcases List.mem_append.1 hz with hz | hz
          · exact hp.items z (.inr ⟨j, hj, hz⟩)
          · rw [List.mem_singleton.1 hz]; exact It.ok_plain hy hx
        · rw [upd_other _ _ hji] at hz
          exact hp.items z (.inr ⟨j, hj, hz⟩)
  | trim _ _ _ hf =>
    refine ⟨hp.room, by show p.u + 26 ≤ p.room; omega, ?_, ?_, fun z hz => ?_⟩
    · show p.u + 26 = usum (upd p.L 7 (p.L 7 ++ [x.hdr 7]))
      rw [usum_upd _ (by decide), sumZ_app, sumZ_cons, sumZ_nil, hdr_sz, hp.sum]
      omega
    · show (wfrom (upd p.L 7 (p.L 7 ++ [x.hdr 7])) 8 ++ p.C).length ≤ _
      unfold Pp.waits at hl
      rw [List.length_append, wfrom_push _ _ (by decide)]
      rw [List.length_append] at hl
      omega
    · rcases hz with hz | ⟨j, hj, hz⟩
      · exact hp.items z (.inl hz)
      · replace hz : z ∈ upd p.L 7 (p.L 7 ++ [x.hdr 7]) j := hz
        by_cases hji : j = 7
        · subst hji
          rw [upd_same] at hz
          rcases List.mem_append.1 hz with hz | hz
          · exact hp.items z (.inr ⟨7, hj, hz⟩)
          · rw [List.mem_singleton.1 hz]
            exact ⟨Nat.zero_le _, hx.2⟩
        · rw [upd_other _ _ hji] at hz
          exact hp.items z (.inr ⟨j, hj, hz⟩)
def PutAny (b B0 : Nat) (l : Pl) (p : Pp) (x : It) (w : World) (e : Ending) (w' : World) : Prop := ∃ r p', e = .returned (.int .i64 r) ∧ PoPost b B0 l p' w w' ∧ PutRel p x r p'
theorem put_any (b B0 : Nat) (l : Pl) (p : Pp) (N : Nat) (x : It) (w : World) (h : Po b B0 l p w) (hr : Rd w 1 (.slice x.da x.dn x.dc) x.dn (bcells x.bs)) (ho : p.ok N) (hN : N ≤ 1000000) (hx : x.ok) : Calls Try.prog 10 #[.pointer (some ⟨b, 0, none⟩), x.val] w (PutAny b B0 l p x w) := by
  have hl := ho.lens hN
  by_cases hk : x.kind = 11
  · have hkb : (x.kind == 11) = true := beq_iff_eq.2 hk
    by_cases hc : p.most ≤ (p.C.length : Int)
    · refine (put_cfull b B0 l p x w h hkb (decide_eq_true hc)).mono ?_
      rintro e w' ⟨rfl, hb⟩
      exact ⟨3, p, rfl, PoPost.same h hb, .full hk hc⟩
    · refine (put_cred b B0 l p x w h hr hx.1 hkb (decide_eq_false hc) hl.2).mono ?_
      rintro e w' ⟨rfl, a, c, hp⟩
      exact ⟨1, _, rfl, hp, .cred _ hk (by omega) (plain_data x a c)⟩
  · have hkb : (x.kind == 11) = false := beq_eq_false_iff_ne.2 hk
    obtain ⟨i, hi, hc⟩ : ∃ i : Nat, i < 8 ∧ clampI x.prio 0 7 = i := by
      refine ⟨(clampI x.prio 0 7).toNat, ?_, ?_⟩
      · unfold clampI
        split
        · decide
        · split <;> omega
      · unfold clampI
        split
        · rfl
        · split <;> omega
    by_cases hf : x.sz ≤ p.room - p.u
    · refine (put_line b B0 l p i x w h hr hx.1 hkb hx.2 hi hc ho.room ⟨ho.u0, ho.u⟩ hf (hl.1 i hi)).mono ?_
      rintro e w' ⟨rfl, a, c, hp⟩
      exact ⟨1, _, rfl, hp, .line _ i hk hi hc hf (plain_data x a c)⟩
    · by_cases hd : x.kind ≠ 1 ∨ p.trim = false
      · refine (put_drop b B0 l p i x w h hr hx.1 hkb hx.2 hi hc ho.room ⟨ho.u0, ho.u⟩ (by omega) ?_).mono ?_
        · by_cases hk1 : x.kind = 1
          · rcases hd with hd | hd
            · exact absurd hk1 hd
            · exact .inr ⟨beq_iff_eq.2 hk1, hd⟩
          · exact .inl (beq_eq_false_iff_ne.2 hk1)
        · rintro e w' ⟨rfl, hb⟩
          exact ⟨3, p, rfl, PoPost.same h hb, .drop hk (by omega) (hd.elim (fun h => .inl h) (fun h => .inr (.inl h)))⟩
      · have hk1 : x.kind = 1 := by
          by_cases hk1 : x.kind = 1
          · exact hk1
          · exact absurd (.inl hk1) hd
        have ht : p.trim = true := by
          cases htt : p.trim with
          | true => rfl
          | false => exact absurd (.inr htt) hd
        by_cases hf2 : 26 ≤ p.room - p.u
        · refine (put_trim b B0 l p i x w h hr hx.1 hkb hx.2 hi hc ho.room ⟨ho.u0, ho.u⟩ (by omega) hk1 ht hf2 (hl.1 7 (by decide))).mono ?_
          rintro e w' ⟨rfl, hp⟩
          exact ⟨2, _, rfl, hp, .trim hk1 ht (by omega) hf2⟩
        · refine (put_trimno b B0 l p i x w h hr hx.1 hkb hx.2 hi hc ho.room ⟨ho.u0, ho.u⟩ (by omega) hk1 ht (by omega)).mono ?_
          rintro e w' ⟨rfl, hb⟩
          exact ⟨3, p, rfl, PoPost.same h hb, .drop hk (by omega) (.inr (.inr (by omega)))⟩
end Go.Proofs.Ythgkminjhpaakaa
