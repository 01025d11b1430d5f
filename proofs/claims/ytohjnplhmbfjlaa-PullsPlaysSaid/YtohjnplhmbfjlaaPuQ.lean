/- Who waits (chapter 18): each call as the document's answer has it. -/
import Derived.Test.YtohjnplhmbfjlaaPuN
import Derived.Test.YtohjnplhmbfjlaaPuX
namespace Go.Proofs.Ytohjnplhmbfjlaa
open Go.RowKit

theorem PuPost.same {b B : Nat} {V : Nat → Value} {s : Ps} {w w' : World} (h : Pu b B V s w) (hb : Below w.heap.size w w') : PuPost b B V s w w' := ⟨V, h.below hb, Kept.of_below hb, fun _ hh => .inl hh⟩
theorem RpPost.same {b B : Nat} {V : Value} {s : Rs} {w w' : World} (h : Rp b B V s w) (hb : Below w.heap.size w w') : RpPost b B V s w w' := ⟨V, h.below hb, Kept.of_below hb, fun _ hh => .inl hh⟩
section
variable {b B : Nat} {V : Nat → Value} {s : Ps} {t : Rs} {N : Int} {w : World}
theorem waits_sim (p id : Int) (h : Pu b B V s w) (ho : s.ok N) (hs : Sim s t) : Calls Try.prog 17 #[.pointer (some ⟨b, 0, none⟩), .int .i64 p, .int .u64 id] w fun e w' => e = .returned (.int .i64 (rat t.l (t.l.findIdx? (Rf.is p id))).wt) ∧ Below w.heap.size w w' := by
  by_cases hp : 0 ≤ p ∧ p < 8
  · obtain ⟨q, rfl⟩ : ∃ q : Nat, p = q := ⟨p.toNat, by omega⟩
    refine (waits_pu b B V s N q id w h ho (by omega)).mono ?_
    rintro e w' ⟨i, f, hf, rfl, hb⟩
    exact ⟨by rw [(sim_of hs ho (by omega) hf).1], hb⟩
  · refine (waitsno_pu _ p id w (.inr hp)).mono ?_
    rintro e w' ⟨rfl, hb⟩
    exact ⟨by rw [sim_out hs hp]; rfl, hb⟩
theorem pulled_sim (p id : Int) (h : Pu b B V s w) (ho : s.ok N) (hs : Sim s t) : Calls Try.prog 18 #[.pointer (some ⟨b, 0, none⟩), .int .i64 p, .int .u64 id] w fun e w' => e = .returned (.int .i64 (rat t.l (t.l.findIdx? (Rf.is p id))).ct) ∧ Below w.heap.size w w' := by
  by_cases hp : 0 ≤ p ∧ p < 8
  · obtain ⟨q, rfl⟩ : ∃ q : Nat, p = q := ⟨p.toNat, by omega⟩
    refine (pulled_pu b B V s N q id w h ho (by omega)).mono ?_
    rintro e w' ⟨i, f, hf, rfl, hb⟩
    exact ⟨by rw [(sim_of hs ho (by omega) hf).2], hb⟩
  · refine (pulledno_pu _ p id w (.inr hp)).mono ?_
    rintro e w' ⟨rfl, hb⟩
    exact ⟨by rw [sim_out hs hp]; rfl, hb⟩
theorem len_sim (h : Pu b B V s w) (ho : s.ok N) (hs : Sim s t) : Calls Try.prog 11 #[.pointer (some ⟨b, 0, none⟩)] w fun e w' => e = .returned (.int .i64 (sumR t.l)) ∧ Below w.heap.size w w' := by
  refine (len_pu b B V s N w h ho).mono ?_
  rintro e w' ⟨rfl, hb⟩
  exact ⟨by rw [hs.l, flat_sum], hb⟩
theorem drop_sim (p id : Int) (h : Pu b B V s w) (ho : s.ok N) (hs : Sim s t) : Calls Try.prog 14 #[.pointer (some ⟨b, 0, none⟩), .int .i64 p, .int .u64 id] w fun e w' => e = .returned (.int .i64 (rat t.l (t.l.findIdx? (Rf.is p id))).wt) ∧ ∃ s', PuPost b B V s' w w' ∧ s'.ok N ∧ Sim s' (t.drop (t.l.findIdx? (Rf.is p id))) := by
  by_cases hp : 0 ≤ p ∧ p < 8
  · obtain ⟨q, rfl⟩ : ∃ q : Nat, p = q := ⟨p.toNat, by omega⟩
    refine (drop_pu b B V s N q id w h ho (by omega)).mono ?_
    rintro e w' ⟨i, f, hf, rfl, hb⟩
    exact ⟨by rw [(sim_of hs ho (by omega) hf).1], _, hb, drop_ok ho (by omega) hf, sim_drop hs ho (by omega) hf⟩
  · refine (dropno_pu _ p id w (.inr hp)).mono ?_
    rintro e w' ⟨rfl, hb⟩
    exact ⟨by rw [sim_out hs hp]; rfl, s, PuPost.same h hb, ho, by rw [sim_out hs hp]; exact hs⟩
def RWantAll (t : Rs) (p id n c : Int) (l' : List Rf) : Prop := (¬ okWant p id n ∧ c = 1 ∧ l' = t.l) ∨ (okWant p id n ∧ RWant t p id n c l')
theorem rwant_all (p id n : Int) {r : Nat} {U : Value} (h : Rp r B U t w) (hl : t.l.length ≤ 1000000) (hok : ∀ x ∈ t.l, RfOk x) : Calls Try.prog 12 #[.pointer (some ⟨r, 0, none⟩), .int .i64 p, .int .u64 id, .int .i64 n] w fun e w' => ∃ c l', RWantAll t p id n c l' ∧ e = .returned (.int .i64 c) ∧ RpPost r B U { t with l := l' } w w' := by
  by_cases hq : okWant p id n
  · refine (rwant r B U t p id n w h hl hok hq).mono ?_
    rintro e w' ⟨c, l', h1, rfl, h2⟩
    exact ⟨c, l', .inr ⟨hq, h1⟩, rfl, h2⟩
  · refine (rwantno _ p id n w hq).mono ?_
    rintro e w' ⟨rfl, rfl⟩
    exact ⟨1, t.l, .inl ⟨hq, rfl, rfl⟩, rfl, RpPost.same h (Below.refl _ _)⟩
theorem want_sim (p id n : Int) (h : Pu b B V s w) (ho : s.ok N) (hN : 0 ≤ N) (hs : Sim s t) : Calls Try.prog 9 #[.pointer (some ⟨b, 0, none⟩), .int .i64 p, .int .u64 id, .int .i64 n] w fun e w' => ∃ c s', e = .returned (.int .i64 c) ∧ PuPost b B V s' w w' ∧ s'.ok N ∧ ∀ c' l', RWantAll t p id n c' l' → c = c' ∧ Sim s' { t with l := l' } := by
  by_cases hq : okWant p id n
  · have hq0 := hq
    obtain ⟨⟨hp1, hp2⟩, _⟩ := hq0
    obtain ⟨q, rfl⟩ : ∃ q : Nat, p = q := ⟨p.toNat, by omega⟩
    refine (want_pu b B V s N q id n w h ho hq).mono ?_
    rintro e w' ⟨i, f, hf, rfl, hb⟩
    refine ⟨_, _, rfl, hb, want_ok ho hN (by omega) hq hf, fun c' l' hr => ?_⟩
    rcases hr with ⟨hn, _⟩ | ⟨_, hr⟩
    · exact absurd hq hn
    · obtain ⟨h1, h2⟩ := sim_want hs ho (by omega) hf hr
      exact ⟨h1.symm, h2⟩
  · refine (wantno_pu _ p id n w hq).mono ?_
    rintro e w' ⟨rfl, rfl⟩
    refine ⟨1, s, rfl, PuPost.same h (Below.refl _ _), ho, fun c' l' hr => ?_⟩
    rcases hr with ⟨_, rfl, rfl⟩ | ⟨hq', _⟩
    · exact ⟨rfl, hs⟩
    · exact absurd hq' hq
theorem next_sim (h : Pu b B V s w) (ho : s.ok N) (hN : N ≤ 1000000000) (hs : Sim s t) : Calls Try.prog 10 #[.pointer (some ⟨b, 0, none⟩)] w fun e w' => ∃ (p id n : Int) (k : Bool) (s' : Ps) (t' : Rs), e = .returned (.tuple #[.int .i64 p, .int .u64 id, .int .i64 n, .bool k]) ∧ PuPost b B V s' w w' ∧ s'.ok (N + 1) ∧ Sim s' t' ∧ ∀ (r : Nat) (U : Value) (W W' : World) (e' : Ending), RNext r B U t W e' W' → e' = .returned (.tuple #[.int .i64 p, .int .u64 id, .int .i64 n, .bool k]) ∧ RpPost r B U t' W W' := by
  refine (next_pu b B V s N w h ho hN).mono ?_
  intro e w' hn
  rcases hn with ⟨h1, rfl, hb⟩ | ⟨k, i, x, h1, h2, h3, h4, rfl, h5⟩
  · refine ⟨0, 0, 0, false, s, t, rfl, PuPost.same h hb, ok_mono ho (by omega), hs, ?_⟩
    rintro r U W W' e' (⟨_, rfl, h6⟩ | ⟨j, m, y, h6, h7, h8, _⟩)
    · exact ⟨rfl, h6⟩
    · have := (sim_idle hs h6).2 (h1 j h6)
      unfold Rs.idle at this
      rw [h8] at this; cases this
  · have hp : s.turn k < 8 := Nat.mod_lt _ (by decide)
    refine ⟨_, _, _, true, _, _, rfl, h5, serve_ok ho hp h3 h4, sim_serve hs hp h4, ?_⟩
    have hpk := sim_pick hs hp
    rw [h3] at hpk
    rintro r U W W' e' (⟨h6, _⟩ | ⟨j, m, y, h6, h7, h8, h9, rfl, h10⟩)
    · have := (sim_idle hs h1).1 (h6 k h1)
      unfold Ps.idle at this
      rw [h3] at this; cases this
    · have hjk : j = k := by
        rcases Nat.lt_trichotomy j k with h | h | h
        · have := (sim_idle hs h6).2 (h2 j h)
          unfold Rs.idle at this
          rw [h8] at this; cases this
        · exact h
        · have := (sim_idle hs h1).1 (h7 k h)
          unfold Ps.idle at this
          rw [h3] at this; cases this
      subst hjk
      rw [sim_turn hs h1] at h8 h10 ⊢
      rw [hpk] at h8
      have hm : m = i + (pre s.L (s.turn j)).length := by
        have h8 : some (i + (pre s.L (s.turn j)).length) = some m := h8
        injection h8 with h8
        exact h8.symm
      subst hm
      rw [sim_get hs hp h4] at h9
      injection h9 with h9
      subst h9
      exact ⟨rfl, h10⟩
end
/-- the queue and the document's answer, side by side -/
structure Pw (B b r : Nat) (V : Nat → Value) (U : Value) (s : Ps) (t : Rs) (w : World) : Prop where
  pp : Pu b B V s w
  rr : Rp r B U t w
  dis : ∀ x, PM b V x → ¬ RM r U x
section
variable {B b r : Nat} {V : Nat → Value} {U : Value} {s s' : Ps} {t t' : Rs} {w w' : World}
theorem Pw.keptF (h : Pw B b r V U s t w) (hk : Kept (fun _ => False) w w') : Pw B b r V U s t w' := ⟨h.pp.keptF hk, h.rr.keptF hk, h.dis⟩
theorem Pw.below (h : Pw B b r V U s t w) (hk : Below w.heap.size w w') : Pw B b r V U s t w' := h.keptF (Kept.of_below hk)
theorem Pw.first (h : Pw B b r V U s t w) (hp : PuPost b B V s' w w') : ∃ V', Pw B b r V' U s' t w' ∧ Below B w w' ∧ Kept (PM b V) w w' := by
  have hb := hp.below h.pp
  obtain ⟨V', h1, h2, h3⟩ := hp
  refine ⟨V', ⟨h1, h.rr.kept h2 (fun x hx hh => h.dis x hh hx), fun x hx hh => ?_⟩, hb, h2⟩
  rcases h3 x hx with h4 | h4
  · exact h.dis x h4 hh
  · have := (h.rr.lt x hh).2; omega
theorem Pw.second (h : Pw B b r V U s t w) (hp : RpPost r B U t' w w') : ∃ U', Pw B b r V U' s t' w' ∧ Below B w w' ∧ Kept (RM r U) w w' := by
  have hb := hp.below h.rr
  obtain ⟨U', h1, h2, h3⟩ := hp
  refine ⟨U', ⟨h.pp.kept h2 (fun x hx hh => h.dis x hx hh), h1, fun x hx hh => ?_⟩, hb, h2⟩
  rcases h3 x hh with h4 | h4
  · exact h.dis x hx h4
  · have := (h.pp.lt x hx).2; omega
theorem Pw.lo (h : Pw B b r V U s t w) : B ≤ w.heap.size := by have := h.pp.base; have := h.pp.ob.lt; omega
end
end Go.Proofs.Ytohjnplhmbfjlaa
