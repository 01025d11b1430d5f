/- The port and the document's port side by side (chapter 13): Take, Drop, Double. -/
import Derived.Test.YthgkminjhpaakaaPoS
import Derived.Test.YthgkminjhpaakaaPoK
namespace Go.Proofs.Ythgkminjhpaakaa
open Go.RowKit

theorem Like.cons_inv {y : It} {Y W : List It} (h : Like (y :: Y) W) : ∃ x W', W = x :: W' ∧ y.plain = x.plain ∧ Like Y W' := by
  cases W with
  | nil => simp [Like] at h
  | cons x W' =>
    unfold Like at h ⊢
    have h2 : y.plain = x.plain ∧ Y.map It.plain = W'.map It.plain := by simpa using h
    exact ⟨x, W', rfl, h2.1, h2.2⟩
theorem Like.nil_inv {W : List It} (h : Like [] W) : W = [] := by
  cases W with
  | nil => rfl
  | cons x W' => simp [Like] at h
theorem Like.nil_inv' {Y : List It} (h : Like Y []) : Y = [] := by
  cases Y with
  | nil => rfl
  | cons x W' => simp [Like] at h
theorem Like.cut {Y W : List It} (h : Like Y W) (j : Nat) : Like (Y.take j ++ Y.drop (j + 1)) (W.take j ++ W.drop (j + 1)) := by
  unfold Like at *
  rw [List.map_append, List.map_append, List.map_take, List.map_take, List.map_drop, List.map_drop, h]
theorem Like.wf {L M : Nat → List It} (h : ∀ i, i < 8 → Like (L i) (M i)) : ∀ k, k ≤ 8 → Like (wfrom L k) (wfrom M k)
  | 0, _ => rfl
  | k + 1, hk => by
    have h1 := Like.wf h k (by omega)
    have h2 := h (7 - k) (by omega)
    unfold Like at *
    rw [wfrom, wfrom, List.map_append, List.map_append, h1, h2]
theorem Sim.waits {p : Pp} {t : Mp} (h : Sim p t) : Like p.waits t.waits := by
  have h1 := Like.wf h.L 8 (by decide)
  have h2 := h.C
  unfold Like at *
  unfold Pp.waits Mp.waits
  rw [List.map_append, List.map_append, h1, h2]
/-- what a port gives -/
inductive TakeRel (p : Pp) (T : Int) : It → Bool → Pp → Prop
  | cred (x : It) (r : List It) : p.C = x :: r → p.pc.due T = true → TakeRel p T x true { p with now := T, pc := p.pc.go T, C := r }
  | none (s : Pc) : ((p.C = [] ∧ s = p.pc) ∨ (p.C ≠ [] ∧ p.pc.due T = false ∧ s = p.pc.go T)) → (∀ i, i < 8 → p.L i = []) → TakeRel p T it0 false { p with now := T, pc := s }
  | line (s : Pc) (i : Nat) (x : It) (r : List It) : ((p.C = [] ∧ s = p.pc) ∨ (p.C ≠ [] ∧ p.pc.due T = false ∧ s = p.pc.go T)) → i < 8 → p.L i = x :: r → (∀ j, i < j → j < 8 → p.L j = []) → TakeRel p T x true { p with now := T, pc := s, u := p.u - x.sz, L := upd p.L i r }
theorem take_any (b B0 : Nat) (l : Pl) (p : Pp) (N : Nat) (now : Int) (w : World) (h : Po b B0 l p w) (ho : p.ok N) (hN : N ≤ 1000000) : Calls Try.prog 11 #[.pointer (some ⟨b, 0, none⟩), .int .i64 now] w fun e w' => ∃ x ok p', e = .returned (.tuple #[boxV x, .bool ok]) ∧ PoPost b B0 l p' w w' ∧ TakeRel p (max p.now now) x ok p' := by
  have hl := ho.lens hN
  have hu : ∀ i x r, i < 8 → p.L i = x :: r → x.sz ≤ p.u := fun i x r hi hL => by
    rw [ho.sum]
    exact usum_mem hi (by rw [hL]; exact List.mem_cons_self)
  have hu2 : p.u ≤ 1099511627776 := by have := ho.u; have := ho.room; omega
  cases hC : p.C with
  | nil =>
    refine (take_q0 b B0 l p now _ w h (by rw [hC]; rfl) rfl hu hu2).mono ?_
    rintro e w' (⟨rfl, hn, hp⟩ | ⟨i, x, r, hi, hL, hab, rfl, hp⟩)
    · exact ⟨it0, false, _, rfl, hp, .none _ (.inl ⟨hC, rfl⟩) hn⟩
    · exact ⟨x, true, _, rfl, hp, .line _ i x r (.inl ⟨hC, rfl⟩) hi hL hab⟩
  | cons x r =>
    cases hd : p.pc.due (max p.now now) with
    | true =>
      refine (take_cred b B0 l p x r now _ w h hC rfl hd hl.2).mono ?_
      rintro e w' ⟨rfl, hp⟩
      exact ⟨x, true, _, rfl, hp, .cred x r hC hd⟩
    | false =>
      refine (take_q1 b B0 l p now _ w h (by rw [hC]; simp) hd rfl hu hu2).mono ?_
      rintro e w' (⟨rfl, hn, hp⟩ | ⟨i, x, r, hi, hL, hab, rfl, hp⟩)
      · exact ⟨it0, false, _, rfl, hp, .none _ (.inr ⟨by rw [hC]; simp, hd, rfl⟩) hn⟩
      · exact ⟨x, true, _, rfl, hp, .line _ i x r (.inr ⟨by rw [hC]; simp, hd, rfl⟩) hi hL hab⟩
inductive MTakeRel (t : Mp) (T : Int) : It → Bool → Mp → Prop
  | cred (x : It) (r : List It) : t.C = x :: r → (t.ever = false ∨ (t.ever = true ∧ 4 ≤ T - t.last)) → MTakeRel t T x true { t with C := r, now := T, last := T, ever := true }
  | none : (t.C.length = 0 ∨ (0 < t.C.length ∧ t.ever = true ∧ T - t.last < 4)) → (∀ i, i < 8 → t.L i = []) → MTakeRel t T it0 false { t with now := T }
  | line (i : Nat) (x : It) (r : List It) : (t.C.length = 0 ∨ (0 < t.C.length ∧ t.ever = true ∧ T - t.last < 4)) → i < 8 → t.L i = x :: r → (∀ j, i < j → j < 8 → t.L j = []) → MTakeRel t T x true { t with now := T, L := upd t.L i r }
theorem mtake_any (m : Nat) (U : Nat → Value) (uc : Value) (t : Mp) (N : Nat) (now : Int) (w : World) (h : Mo m U uc t w) (ho : t.ok N) (hn : 0 ≤ t.now ∧ t.now ≤ 1125899906842624) (hl : 0 ≤ t.last ∧ t.last ≤ 1125899906842624) : Calls Try.prog 20 #[.pointer (some ⟨m, 0, none⟩), .int .i64 now] w fun e w' => ∃ x ok t', e = .returned (.tuple #[boxV x, .bool ok]) ∧ MoPost m t' w w' ∧ MTakeRel t (max t.now (min now 1125899906842624)) x ok t' := by
  have hb : 0 ≤ max t.now (min now 1125899906842624) ∧ max t.now (min now 1125899906842624) ≤ 1125899906842624 ∧ 0 ≤ t.last ∧ t.last ≤ 1125899906842624 := by omega
  by_cases hd : t.C.length = 0 ∨ (0 < t.C.length ∧ t.ever = true ∧ max t.now (min now 1125899906842624) - t.last < 4)
  · refine (mtake_line m U uc t N now _ w h ho rfl hd hb).mono ?_
    rintro e w' (⟨rfl, hn, hp⟩ | ⟨i, x, r, hi, hL, hab, rfl, hp⟩)
    · exact ⟨it0, false, _, rfl, hp, .none hd hn⟩
    · exact ⟨x, true, _, rfl, hp, .line i x r hd hi hL hab⟩
  · cases hC : t.C with
    | nil => exact absurd (.inl (by rw [hC]; rfl)) hd
    | cons x r =>
      have hd2 : t.ever = false ∨ (t.ever = true ∧ 4 ≤ max t.now (min now 1125899906842624) - t.last) := by
        cases he : t.ever with
        | false => exact .inl rfl
        | true => exact .inr ⟨rfl, by
            by_cases h4 : max t.now (min now 1125899906842624) - t.last < 4
            · exact absurd (.inr ⟨by rw [hC]; simp, he, h4⟩) hd
            · omega⟩
      refine (mtake_cred m U uc t x r now _ w h hC rfl hd2 hb).mono ?_
      rintro e w' ⟨rfl, hp⟩
      exact ⟨x, true, _, rfl, hp, .cred x r hC hd2⟩
theorem Sim.due {p : Pp} {t : Mp} (h : Sim p t) (T T' : Int) (hT : T = min T' 1125899906842624) (hT0 : t.now ≤ T) : p.pc.due T' = true ↔ (t.ever = false ∨ (t.ever = true ∧ 4 ≤ T - t.last)) := by
  have hn := h.n
  have ok := h.pok
  have htk : tick p.pc.n T' = T := by unfold tick; omega
  unfold Pc.due Pc.x
  rw [htk, h.ever, h.last, h.e, decide_eq_true_iff]
  cases hv : p.pc.v with
  | false =>
    have := ok.4
    simp
    have h1 := h.now
    have h2 := h.pnow
    omega
  | true =>
    simp
    omega
theorem Sim.tickT {p : Pp} {t : Mp} (h : Sim p t) {T T' : Int} (hT : T = min T' 1125899906842624) (hT0 : t.now ≤ T) : tick p.pc.n T' = T := by
  have hn := h.n
  unfold tick
  omega
theorem Sim.pc {p : Pp} {t : Mp} (h : Sim p t) {T T' : Int} (hT : T = min T' 1125899906842624) (hT0 : t.now ≤ T) (hp : 0 ≤ T') {s : Pc} (hs : s = p.pc ∨ (p.pc.due T' = false ∧ s = p.pc.go T')) : Sim { p with now := T', pc := s } { t with now := T } := by
  have htk := h.tickT hT hT0
  rcases hs with rfl | ⟨hd, rfl⟩
  · exact ⟨h.room, h.most, h.trim, h.L, h.C, hp, hT, h.e, h.ever, h.last, Int.le_trans h.n hT0, h.pok⟩
  · have hg : p.pc.go T' = ⟨p.pc.e, T, p.pc.l, p.pc.v⟩ := by
      unfold Pc.go
      rw [if_neg (by simp [hd]), htk]
    have hok := Pc.go_ok h.pok T'
    refine ⟨h.room, h.most, h.trim, h.L, h.C, hp, hT, ?_, ?_, ?_, ?_, hok⟩
    · show (p.pc.go T').e = 4
      rw [hg]; exact h.e
    · show t.ever = (p.pc.go T').v
      rw [hg]; exact h.ever
    · show t.last = (p.pc.go T').l
      rw [hg]; exact h.last
    · show (p.pc.go T').n ≤ T
      rw [hg]; exact Int.le_refl _
theorem Sim.take {p p' : Pp} {t t' : Mp} {T T' now : Int} {x x' : It} {ok ok' : Bool} (h : Sim p t) (hT' : T' = max p.now now) (hT : T = max t.now (min now 1125899906842624)) (h1 : TakeRel p T' x ok p') (h2 : MTakeRel t T x' ok' t') : ok = ok' ∧ x.plain = x'.plain ∧ Sim p' t' := by
  have hn := h.now
  have hp0 := h.pnow
  have hTT : T = min T' 1125899906842624 := by omega
  have hT0 : t.now ≤ T := by omega
  have hTp : 0 ≤ T' := by omega
  have hdue := h.due T T' hTT hT0
  have hCl := h.C.len
  cases h1 with
  | cred x r a1 a2 =>
    cases h2 with
    | cred x' r' b1 b2 =>
      have hc := h.C
      rw [a1] at hc
      obtain ⟨y, W, hw, e1, e2⟩ := hc.cons_inv
      rw [b1] at hw
      injection hw with hw1 hw2
      subst hw1
      subst hw2
      refine ⟨rfl, e1, ?_⟩
      have hg : p.pc.go T' = ⟨p.pc.e, T, T, true⟩ := by
        unfold Pc.go
        rw [if_pos a2, h.tickT hTT hT0]
      have hok := Pc.go_ok h.pok T'
      refine ⟨h.room, h.most, h.trim, h.L, e2, hTp, hTT, ?_, ?_, ?_, ?_, hok⟩
      · show (p.pc.go T').e = 4
        rw [hg]; exact h.e
      · show true = (p.pc.go T').v
        rw [hg]
      · show T = (p.pc.go T').l
        rw [hg]
      · show (p.pc.go T').n ≤ T
        rw [hg]; exact Int.le_refl _
    | none b1 b2 =>
      exfalso
      have := hdue.1 a2
      rcases b1 with b1 | ⟨b0, b1, b3⟩
      · rw [a1] at hCl; simp at hCl; omega
      · rcases this with h3 | ⟨_, h3⟩
        · rw [b1] at h3; cases h3
        · omega
    | line i x' r' b1 b2 b3 b4 =>
      exfalso
      have := hdue.1 a2
      rcases b1 with b1 | ⟨b0, b1, b3⟩
      · rw [a1] at hCl; simp at hCl; omega
      · rcases this with h3 | ⟨_, h3⟩
        · rw [b1] at h3; cases h3
        · omega
  | none s a1 a2 =>
    have hs : s = p.pc ∨ (p.pc.due T' = false ∧ s = p.pc.go T') := by
      rcases a1 with ⟨_, h3⟩ | ⟨_, h3, h4⟩
      · exact .inl h3
      · exact .inr ⟨h3, h4⟩
    cases h2 with
    | cred x' r' b1 b2 =>
      exfalso
      rcases a1 with ⟨h3, _⟩ | ⟨h3, h4, _⟩
      · rw [h3, b1] at hCl; simp at hCl
      · have := hdue.2 b2
        rw [this] at h4; cases h4
    | none b1 b2 => exact ⟨rfl, rfl, h.pc hTT hT0 hTp hs⟩
    | line i x' r' b1 b2 b3 b4 =>
      exfalso
      have := h.L i b2
      rw [a2 i b2, b3] at this
      simp [Like] at this
  | line s i x r a1 a2 a3 a4 =>
    have hs : s = p.pc ∨ (p.pc.due T' = false ∧ s = p.pc.go T') := by
      rcases a1 with ⟨_, h3⟩ | ⟨_, h3, h4⟩
      · exact .inl h3
      · exact .inr ⟨h3, h4⟩
    cases h2 with
    | cred x' r' b1 b2 =>
      exfalso
      rcases a1 with ⟨h3, _⟩ | ⟨h3, h4, _⟩
      · rw [h3, b1] at hCl; simp at hCl
      · have := hdue.2 b2
        rw [this] at h4; cases h4
    | none b1 b2 =>
      exfalso
      have := h.L i a2
      rw [b2 i a2, a3] at this
      simp [Like] at this
    | line j x' r' b1 b2 b3 b4 =>
      have hij : i = j := by
        rcases Nat.lt_trichotomy i j with h3 | h3 | h3
        · have := h.L j b2
          rw [a4 j h3 b2, b3] at this
          simp [Like] at this
        · exact h3
        · have := h.L i a2
          rw [b4 i h3 a2, a3] at this
          simp [Like] at this
      subst hij
      have hc := h.L i a2
      rw [a3] at hc
      obtain ⟨y, W, hw, e1, e2⟩ := hc.cons_inv
      rw [b3] at hw
      injection hw with hw1 hw2
      subst hw1
      subst hw2
      exact ⟨rfl, e1, (h.pc hTT hT0 hTp hs).lineL e2 _⟩
theorem TakeRel.ok {N : Nat} {p p' : Pp} {T : Int} {x : It} {b : Bool} (h : TakeRel p T x b p') (hp : p.ok N) : p'.ok N := by
  have hl := hp.len
  cases h with
  | cred x r a1 _ =>
    refine ⟨hp.room, hp.u, hp.sum, ?_, fun z hz => ?_⟩
    · show (wfrom p.L 8 ++ r).length ≤ N
      unfold Pp.waits at hl
      rw [a1] at hl
      simp only [List.length_append, List.length_cons] at *
      omega
    · rcases hz with hz | hz
      · exact hp.items z (.inl (by rw [a1]; exact List.mem_cons_of_mem _ hz))
      · exact hp.items z (.inr hz)
  | none s _ _ => exact ⟨hp.room, hp.u, hp.sum, hp.len, hp.items⟩
  | line s i x r _ a2 a3 a4 =>
    have hw := wfrom_pop a2 a3 a4
    have hxs := szIt x
    refine ⟨hp.room, by show p.u - x.sz ≤ p.room; have := hp.u; omega, ?_, ?_, fun z hz => ?_⟩
    · show p.u - x.sz = usum (upd p.L i r)
      rw [usum_upd _ a2, a3, sumZ_cons, hp.sum]
      omega
    · show (wfrom (upd p.L i r) 8 ++ p.C).length ≤ N
      unfold Pp.waits at hl
      rw [hw] at hl
      simp only [List.length_append, List.length_cons] at *
      omega
    · rcases hz with hz | ⟨j, hj, hz⟩
      · exact hp.items z (.inl hz)
      · replace hz : z ∈ upd p.L i r j := hz
        by_cases hji : j = i
        · subst hji
          rw [upd_same] at hz
          exact hp.items z (.inr ⟨j, hj, by rw [a3]; exact List.mem_cons_of_mem _ hz⟩)
        · rw [upd_other _ _ hji] at hz
          exact hp.items z (.inr ⟨j, hj, hz⟩)
theorem Mp.ok.sub {N : Nat} {t t' : Mp} (ht : t.ok N) (hL : ∀ i, i < 8 → (t'.L i).length ≤ (t.L i).length ∧ ∀ z ∈ t'.L i, z ∈ t.L i) (hC : t'.C.length ≤ t.C.length ∧ ∀ z ∈ t'.C, z ∈ t.C) : t'.ok N := by
  refine ⟨fun z hz => ?_, fun i hi => Nat.le_trans (hL i hi).1 (ht.len i hi), Nat.le_trans hC.1 ht.clen⟩
  rcases hz with hz | ⟨i, hi, hz⟩
  · exact ht.items z (.inl (hC.2 z hz))
  · exact ht.items z (.inr ⟨i, hi, (hL i hi).2 z hz⟩)
theorem upd_sub {L : Nat → List It} {i : Nat} {l : List It} (h1 : l.length ≤ (L i).length) (h2 : ∀ z ∈ l, z ∈ L i) : ∀ j, j < 8 → (upd L i l j).length ≤ (L j).length ∧ ∀ z ∈ upd L i l j, z ∈ L j := fun j _ => by
  by_cases hji : j = i
  · subst hji; rw [upd_same]; exact ⟨h1, h2⟩
  · rw [upd_other _ _ hji]; exact ⟨Nat.le_refl _, fun z hz => hz⟩
theorem MTakeRel.ok {N : Nat} {t t' : Mp} {T : Int} {x : It} {b : Bool} (h : MTakeRel t T x b t') (ht : t.ok N) : t'.ok N := by
  cases h with
  | cred x r a1 _ => exact ht.sub (fun i _ => ⟨Nat.le_refl _, fun z hz => hz⟩) ⟨by rw [a1]; simp, fun z hz => by rw [a1]; exact List.mem_cons_of_mem _ hz⟩
  | none _ _ => exact ht.sub (fun i _ => ⟨Nat.le_refl _, fun z hz => hz⟩) ⟨Nat.le_refl _, fun z hz => hz⟩
  | line i x r _ _ a3 _ => exact ht.sub (upd_sub (by rw [a3]; simp) (fun z hz => by rw [a3]; exact List.mem_cons_of_mem _ hz)) ⟨Nat.le_refl _, fun z hz => hz⟩
theorem MPutRel.ok {N : Nat} {t t' : Mp} {x : It} {r : Int} (h : MPutRel t x r t') (ht : t.ok N) (hx : x.ok2) : t'.ok (N + 1) := by
  have up : ∀ {i : Nat} {y : It}, y.ok2 → ({ t with L := upd t.L i (t.L i ++ [y]) } : Mp).ok (N + 1) := fun {i y} hy => by
    refine ⟨fun z hz => ?_, fun j hj => ?_, Nat.le_succ_of_le ht.clen⟩
    · rcases hz with hz | ⟨j, hj, hz⟩
      · exact ht.items z (.inl hz)
      · replace hz : z ∈ upd t.L i (t.L i ++ [y]) j := hz
        by_cases hji : j = i
        · subst hji
          rw [upd_same] at hz
          rcases List.mem_append.1 hz with hz | hz
          · exact ht.items z (.inr ⟨j, hj, hz⟩)
          · rw [List.mem_singleton.1 hz]; exact hy
        · rw [upd_other _ _ hji] at hz
          exact ht.items z (.inr ⟨j, hj, hz⟩)
    · show (upd t.L i (t.L i ++ [y]) j).length ≤ N + 1
      have := ht.len j hj
      by_cases hji : j = i
      · subst hji
        rw [upd_same, List.length_append, List.length_singleton]
        omega
      · rw [upd_other _ _ hji]
        omega
  have mono : t.ok (N + 1) := ⟨ht.items, fun i hi => Nat.le_succ_of_le (ht.len i hi), Nat.le_succ_of_le ht.clen⟩
  cases h with
  | full _ _ => exact mono
  | drop _ _ _ => exact mono
  | cred _ _ =>
    refine ⟨fun z hz => ?_, fun i hi => Nat.le_succ_of_le (ht.len i hi), ?_⟩
    · rcases hz with hz | hz
      · rcases List.mem_append.1 hz with hz | hz
        · exact ht.items z (.inl hz)
        · rw [List.mem_singleton.1 hz]; exact hx
      · exact ht.items z (.inr hz)
    · show (t.C ++ [x]).length ≤ _
      rw [List.length_append, List.length_singleton]
      have := ht.clen
      omega
  | line i _ _ _ _ => exact up hx
  | trim _ _ _ _ => exact up ⟨Nat.zero_le _, hx.len⟩
end Go.Proofs.Ythgkminjhpaakaa
