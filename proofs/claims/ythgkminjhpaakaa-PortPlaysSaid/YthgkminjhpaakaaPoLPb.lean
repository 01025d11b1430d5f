/- PortPlays: the walk. -/
import Derived.Test.YthgkminjhpaakaaPoLPa
namespace Go.Proofs.Ythgkminjhpaakaa
open Go.RowKit

section
variable {b B0 m : Nat} {l : Pl} {p p' : Pp} {U : Nat → Value} {uc : Value} {t t' : Mp} {w w' : World}
theorem Po.pmT (h : Po b B0 l p w) {g : Nat} (hg : PM b l g) : ∃ T, Ty w g T ∧ T ≠ TX ∧ T ≠ TM := by
  rcases hg with rfl | rfl | hx | hx
  · exact ⟨_, h.ob.ty, by decide, by decide⟩
  · exact ⟨_, Ob.ty h.pc, by decide, by decide⟩
  · exact ⟨_, own_ty h.own hx, by decide, by decide⟩
  · rcases h.qu.ty hx with h | h
    · exact ⟨_, h, by decide, by decide⟩
    · exact ⟨_, h, by decide, by decide⟩
theorem Po.noT (h : Po b B0 l p w) {g : Nat} (hg : PM b l g) {T : TypeId} (hT : Ty w g T) (hn : T ≠ TPt ∧ T ≠ 95 ∧ T ≠ TIt ∧ T ≠ 93 ∧ T ≠ 97) : False := by
  obtain ⟨h1, h2, h3, h4, h5⟩ := hn
  rcases hg with rfl | rfl | hx | hx
  · exact h1 (hT.one h.ob.ty)
  · exact h2 (hT.one (Ob.ty h.pc))
  · exact h3 (hT.one (own_ty h.own hx))
  · rcases h.qu.ty hx with h | h
    · exact h4 (hT.one h)
    · exact h5 (hT.one h)
theorem Mo.ofPo (hm : Mo m U uc t w) (hp : Po b B0 l p w) (hk : Kept (PM b l) w w') : Mo m U uc t w' := by
  refine hm.kept hk (fun hh => ?_) (fun g hg _ => ?_)
  · obtain ⟨T, h1, _, h3⟩ := hp.pmT hh
    exact h3 (h1.one hm.ob.ty)
  · obtain ⟨T, h1, h2, _⟩ := hp.pmT hg
    exact ⟨T, h1, h2⟩
theorem Po.ofMo (hp : Po b B0 l p w) (hm : Mo m U uc t w) (hk : Kept (Only m) w w') : Po b B0 l p w' := by
  refine hp.kept hk (fun x hx hh => ?_) (fun g hg _ => ⟨TM, by rw [show g = m from hg]; exact hm.ob.ty, by decide⟩)
  obtain ⟨T, h1, _, h3⟩ := hp.pmT hx
  have : x = m := hh
  subst this
  exact h3 (h1.one hm.ob.ty)
end
theorem mnew2 (room credits : Int) (trim : Bool) (w : World) (h : 0 ≤ room ∧ room ≤ 1073741824) (h2 : 0 ≤ credits ∧ credits ≤ 1073741824) : Calls Try.prog 18 #[.int .i64 room, .int .i64 credits, .bool trim] w fun e w' => ∃ m U uc, e = .returned (.tuple #[.pointer (some ⟨m, 0, none⟩), .int .i64 0]) ∧ Mo m U uc (newM room credits trim) w' ∧ Below w.heap.size w w' ∧ w.heap.size ≤ m := by
  obtain ⟨h3, h4⟩ := h
  obtain ⟨h5, h6⟩ := h2
  go_enter Try.func18, Try.ntmps18
  go_wp2_with fail
  go_ret2
  refine ⟨_, fun _ => .slice none 0 0, .slice none 0 0, rfl, ⟨Ob.new _ _ _, fun i _ => ⟨.inl ⟨rfl, rfl, rfl⟩, fun a n c hv => (by cases hv)⟩, ⟨.inl ⟨rfl, rfl, rfl⟩, fun a n c hv => (by cases hv)⟩⟩, (Below.refl _ _).alloc (Nat.le_refl _) _, Nat.le_refl _⟩
theorem MPutRel.dat {W0 : World} {t t' : Mp} {x : It} {r : Int} (h : MPutRel t x r t') (hd : Dat W0 t) (hx : x.dn = x.bs.length ∧ Rd W0 1 (.slice x.da x.dn x.dc) x.dn (bcells x.bs)) : Dat W0 t' := by
  have up : ∀ {i : Nat} {y : It}, (y.dn = y.bs.length ∧ Rd W0 1 (.slice y.da y.dn y.dc) y.dn (bcells y.bs)) → Dat W0 { t with L := upd t.L i (t.L i ++ [y]) } := fun {i y} hy z hz => by
    rcases hz with hz | ⟨j, hj, hz⟩
    · exact hd z (.inl hz)
    · replace hz : z ∈ upd t.L i (t.L i ++ [y]) j := hz
      by_cases hji : j = i
      · subst hji
        rw [upd_same] at hz
        rcases List.mem_append.1 hz with hz | hz
        · exact hd z (.inr ⟨j, hj, hz⟩)
        · rw [List.mem_singleton.1 hz]; exact hy
      · rw [upd_other _ _ hji] at hz
        exact hd z (.inr ⟨j, hj, hz⟩)
  cases h with
  | full _ _ => exact hd
  | drop _ _ _ => exact hd
  | cred _ _ =>
    intro z hz
    rcases hz with hz | hz
    · rcases List.mem_append.1 hz with hz | hz
      · exact hd z (.inl hz)
      · rw [List.mem_singleton.1 hz]; exact hx
    · exact hd z (.inr hz)
  | line i _ _ _ _ => exact up hx
  | trim _ _ _ _ => exact up ⟨rfl, .inl ⟨rfl, rfl, rfl⟩⟩
theorem Dat.sub {W0 : World} {t t' : Mp} (hd : Dat W0 t) (h : ∀ z, t'.has z → t.has z) : Dat W0 t' := fun z hz => hd z (h z hz)
theorem MTakeRel.has {t t' : Mp} {T : Int} {x : It} {b : Bool} (h : MTakeRel t T x b t') : (∀ z, t'.has z → t.has z) ∧ (x = it0 ∨ t.has x) := by
  cases h with
  | cred x r a1 _ =>
    refine ⟨fun z hz => ?_, .inr (.inl (by rw [a1]; exact List.mem_cons_self))⟩
    rcases hz with hz | hz
    · exact .inl (by rw [a1]; exact List.mem_cons_of_mem _ hz)
    · exact .inr hz
  | none _ _ => exact ⟨fun z hz => hz, .inl rfl⟩
  | line i x r _ hi a3 _ =>
    refine ⟨fun z hz => ?_, .inr (.inr ⟨i, hi, by rw [a3]; exact List.mem_cons_self⟩)⟩
    rcases hz with hz | ⟨j, hj, hz⟩
    · exact .inl hz
    · exact .inr ⟨j, hj, (upd_sub (L := t.L) (by rw [a3]; simp) (fun z hz => by rw [a3]; exact List.mem_cons_of_mem _ hz) j hj).2 z hz⟩
theorem TakeRel.has {p p' : Pp} {T : Int} {x : It} {b : Bool} (h : TakeRel p T x b p') : x = it0 ∨ p.has x := by
  cases h with
  | cred x r a1 _ => exact .inr (.inl (by rw [a1]; exact List.mem_cons_self))
  | none _ _ _ => exact .inl rfl
  | line s i x r _ hi a3 _ => exact .inr (.inr ⟨i, hi, by rw [a3]; exact List.mem_cons_self⟩)
def DropB (p : Pp) (k : Int) (x : It) (ok : Bool) (p' : Pp) : Prop := ((k < 0 ∨ (p.waits.length : Int) ≤ k) ∧ x = it0 ∧ ok = false ∧ p' = p) ∨ (0 ≤ k ∧ k < p.waits.length ∧ ok = true ∧ DropRel p k.toNat x p')
def MDropB (t : Mp) (k : Int) (x : It) (ok : Bool) (t' : Mp) : Prop := ((k < 0 ∨ (t.waits.length : Int) ≤ k) ∧ x = it0 ∧ ok = false ∧ t' = t) ∨ (0 ≤ k ∧ k < t.waits.length ∧ ok = true ∧ MDropRel t k.toNat x t')
theorem dropB (b B0 : Nat) (l : Pl) (p : Pp) (N : Nat) (k : Int) (w : World) (h : Po b B0 l p w) (ho : p.ok N) (hN : N ≤ 1000000) : Calls Try.prog 22 #[.pointer (some ⟨b, 0, none⟩), .int .i64 k] w fun e w' => ∃ x ok p', e = .returned (.tuple #[boxV x, .bool ok]) ∧ PoPost b B0 l p' w w' ∧ DropB p k x ok p' := by
  by_cases hk : k < 0 ∨ (p.waits.length : Int) ≤ k
  · refine (drop_no b B0 l p k w h (ho.lens hN) hk).mono ?_
    rintro e w' ⟨rfl, hb⟩
    exact ⟨it0, false, p, rfl, PoPost.same h hb, .inl ⟨hk, rfl, rfl, rfl⟩⟩
  · obtain ⟨q, rfl⟩ := Int.eq_ofNat_of_zero_le (show 0 ≤ k by omega)
    refine (drop_any b B0 l p N q w h ho hN (by omega)).mono ?_
    rintro e w' ⟨x, p', rfl, hp, hr⟩
    exact ⟨x, true, p', rfl, hp, .inr ⟨by omega, by omega, rfl, hr⟩⟩
theorem mdropB (m : Nat) (U : Nat → Value) (uc : Value) (t : Mp) (N : Nat) (k : Int) (w : World) (h : Mo m U uc t w) (ho : t.ok N) (hN : N ≤ 100000) (hk2 : k ≤ 9223372036854775807) : Calls Try.prog 23 #[.pointer (some ⟨m, 0, none⟩), .int .i64 k] w fun e w' => ∃ x ok t', e = .returned (.tuple #[boxV x, .bool ok]) ∧ MoPost m t' w w' ∧ MDropB t k x ok t' := by
  by_cases hk : k < 0
  · refine (mdrop_neg m k w hk).mono ?_
    rintro e w' ⟨rfl, hb⟩
    exact ⟨it0, false, t, rfl, MoPost.same h hb, .inl ⟨.inl hk, rfl, rfl, rfl⟩⟩
  · obtain ⟨q, rfl⟩ := Int.eq_ofNat_of_zero_le (show 0 ≤ k by omega)
    by_cases hq : q < t.waits.length
    · refine (mdrop_any m U uc t N q w h ho hN hq).mono ?_
      rintro e w' ⟨x, t', rfl, hp, hr⟩
      exact ⟨x, true, t', rfl, hp, .inr ⟨by omega, by omega, rfl, hr⟩⟩
    · refine (mdrop m U uc t N q w h ho hN (by omega)).mono ?_
      rintro e w' (⟨i, jj, hj, hi, hkk, _⟩ | ⟨jj, hj, hkk, _⟩ | ⟨h1, rfl, hb⟩)
      · exfalso
        have := wl_top t.L hi hj
        unfold Mp.waits at hq
        rw [List.length_append] at hq
        omega
      · exfalso
        unfold Mp.waits at hq
        rw [List.length_append] at hq
        omega
      · exact ⟨it0, false, t, rfl, MoPost.same h hb, .inl ⟨.inr (by omega), rfl, rfl, rfl⟩⟩
theorem Sim.dropB {p p' : Pp} {t t' : Mp} {k : Int} {x x' : It} {ok ok' : Bool} (h : Sim p t) (h1 : DropB p k x ok p') (h2 : MDropB t k x' ok' t') : ok = ok' ∧ x.plain = x'.plain ∧ Sim p' t' := by
  have hl := h.waits.len
  rcases h1 with ⟨a1, rfl, rfl, rfl⟩ | ⟨a1, a2, rfl, a3⟩
  · rcases h2 with ⟨b1, rfl, rfl, rfl⟩ | ⟨b1, b2, rfl, b3⟩
    · exact ⟨rfl, rfl, h⟩
    · omega
  · rcases h2 with ⟨b1, rfl, rfl, rfl⟩ | ⟨b1, b2, rfl, b3⟩
    · omega
    · have := h.drop a3 b3
      exact ⟨rfl, this.1, this.2⟩
theorem DropB.ok {N : Nat} {p p' : Pp} {k : Int} {x : It} {ok : Bool} (h : DropB p k x ok p') (hp : p.ok N) : p'.ok N := by
  rcases h with ⟨_, _, _, rfl⟩ | ⟨_, _, _, h⟩
  · exact hp
  · exact h.ok hp
theorem MDropB.ok {N : Nat} {t t' : Mp} {k : Int} {x : It} {ok : Bool} (h : MDropB t k x ok t') (hp : t.ok N) : t'.ok N := by
  rcases h with ⟨_, _, _, rfl⟩ | ⟨_, _, _, h⟩
  · exact hp
  · exact h.ok hp
theorem DropB.has {p p' : Pp} {k : Int} {x : It} {ok : Bool} (h : DropB p k x ok p') : x = it0 ∨ p.has x := by
  rcases h with ⟨_, h, _, _⟩ | ⟨_, _, _, h⟩
  · exact .inl h
  · cases h with
    | line i j hj hi _ => exact .inr (.inr ⟨i, hi, List.getElem_mem hj⟩)
    | cred j hj _ => exact .inr (.inl (List.getElem_mem hj))
theorem MDropB.has {t t' : Mp} {k : Int} {x : It} {ok : Bool} (h : MDropB t k x ok t') : (∀ z, t'.has z → t.has z) ∧ (x = it0 ∨ t.has x) := by
  rcases h with ⟨_, h, _, rfl⟩ | ⟨_, _, _, h⟩
  · exact ⟨fun z hz => hz, .inl h⟩
  · cases h with
    | line i j hj hi _ =>
      refine ⟨fun z hz => ?_, .inr (.inr ⟨i, hi, List.getElem_mem hj⟩)⟩
      rcases hz with hz | ⟨q, hq, hz⟩
      · exact .inl hz
      · exact .inr ⟨q, hq, (upd_sub (L := t.L) (cut_sub hj).1 (cut_sub hj).2 q hq).2 z hz⟩
    | cred j hj _ =>
      refine ⟨fun z hz => ?_, .inr (.inl (List.getElem_mem hj))⟩
      rcases hz with hz | hz
      · exact .inl ((cut_sub hj).2 z hz)
      · exact .inr hz
theorem Pp.ok.up {N : Nat} {p : Pp} (h : p.ok N) : p.ok (N + 1) := h.mono (Nat.le_succ _)
theorem Mp.ok.up {N : Nat} {t : Mp} (h : t.ok N) : t.ok (N + 1) := ⟨h.items, fun i hi => Nat.le_succ_of_le (h.len i hi), Nat.le_succ_of_le h.clen⟩
/-- both ports after some steps -/
structure Bo (b B0 m : Nat) (W0 : World) (N : Nat) (w : World) : Prop where
  ex : ∃ (l : Pl) (p : Pp) (U : Nat → Value) (uc : Value) (t : Mp), Po b B0 l p w ∧ Mo m U uc t w ∧ Sim p t ∧ p.ok N ∧ t.ok N ∧ Dat W0 t
  bel : Below W0.heap.size W0 w
theorem Bo.below {b B0 m : Nat} {W0 : World} {N : Nat} {w w' : World} (h : Bo b B0 m W0 N w) (hb : Below w.heap.size w w') : Bo b B0 m W0 N w' := by
  obtain ⟨⟨l, p, U, uc, t, h1, h2, h3, h4, h5, h6⟩, h7⟩ := h
  exact ⟨⟨l, p, U, uc, t, h1.below hb, h2.below hb, h3, h4, h5, h6⟩, h7.trans (hb.mono h7.size)⟩
set_option maxRecDepth 100000 in
set_option maxHeartbeats 4000000 in
theorem plays_law (room credits : Int) (trim : Bool) (S : List St) (v : Value) (w : World) (h : Rd w 12 v S.length (S.flatMap St.row)) (hs : ∀ s ∈ S, s.ok w) (hsp : ∀ s ∈ S, s.x.path ≤ 9223372036854775807) : Calls Try.prog 6 #[.int .i64 room, .int .i64 credits, .bool trim, v] w (TrueBelow w) := by
  obtain ⟨a, ca, rfl, hac, hac2⟩ := h.form
  have HR := Lib.hid h
  have HS := Lib.hid hs
  have HSP := Lib.hid hsp
  go_enter Try.func6, Try.ntmps6
  go_wp2_with fail
  refine (small_any S _ w h hs).mono ?_
  rintro e w1 ⟨⟨b0, rfl, hsm⟩, hb1⟩
  have B1 := Lib.hid hb1
  clear h hs hsp hb1
  cases b0 with
  | false =>
    go_wp2_with fail
    refine (awake_w _).mono ?_
    rintro e w6 ⟨rfl, hb6⟩
    have B6 := Lib.hid (B1.out.trans (hb6.mono B1.out.size))
    go_wp2_with fail
    go_ret
    exact ⟨rfl, B6.out⟩
  | true =>
    obtain ⟨hS100, hS1⟩ := hsm rfl
    have HS1 := Lib.hid hS1
    clear hsm hS1
    by_cases hok : (0 ≤ room ∧ room ≤ 1073741824) ∧ 0 ≤ credits ∧ credits ≤ 1073741824
    case neg =>
      have HN := Lib.hid hok
      clear hok
      go_wp2_with fail
      refine (new_no room credits trim _ HN.out).mono ?_
      rintro e w2 ⟨rfl, rfl⟩
      go_wp2_with fail
      refine (mnew_no room credits trim _ HN.out).mono ?_
      rintro e w3 ⟨rfl, rfl⟩
      go_wp2_with fail
      refine (awake_w _).mono ?_
      rintro e w6 ⟨rfl, hb6⟩
      have B6 := Lib.hid (B1.out.trans (hb6.mono B1.out.size))
      go_wp2_with fail
      go_ret
      exact ⟨rfl, B6.out⟩
    case pos =>
      have HOK := Lib.hid hok
      clear hok
      go_wp2_with fail
      refine (new_pt room credits trim _ HOK.out.1 HOK.out.2).mono ?_
      rintro e w2 ⟨b, l, rfl, hp2, hb2⟩
      have P2 := Lib.hid hp2
      have B2 := Lib.hid (B1.out.trans (hb2.mono B1.out.size))
      clear hp2 hb2
      go_wp2_with fail
      refine (mnew2 room credits trim _ HOK.out.1 HOK.out.2).mono ?_
      rintro e w3 ⟨m, U, uc, rfl, hm3, hb3, hmge⟩
      have HMG : Hid (w.heap.size ≤ m) := Lib.hid (Nat.le_trans B2.out.size hmge)
      clear hmge
      have BO3 : Hid (Bo b w1.heap.size m w 0 w3) := Lib.hid ⟨⟨l, _, U, uc, _, P2.out.below hb3, hm3, Sim.new room credits trim, newP_ok room credits trim HOK.out.1, newM_ok room credits trim, fun x hx => by
        rcases hx with hx | ⟨i, _, hx⟩
        · cases hx
        · cases hx⟩, B2.out.trans (hb3.mono B2.out.size)⟩
      clear hm3 hb3
      go_wp2_with fail
      go_loopw [13, 14, 15, 16, 17, 18, 19, 20, 21, 22, 23, 24] (fun i _ _ _ _ _ _ _ _ _ _ _ wr => ∃ j : Nat, j ≤ S.length ∧ i = .int .i64 j ∧ Bo b w1.heap.size m w j wr) (fun i _ _ _ _ _ _ _ _ _ _ _ _ => S.length - (intOf i).toNat)
      case atStart => exact ⟨0, by omega, rfl, BO3.out⟩
      case round =>
        obtain ⟨j, hj, rfl, hbo⟩ := hrel
        obtain ⟨⟨l4, p4, U4, uc4, t4, hp4, hm4, hs4, ho4, hto4, hd4⟩, hb4⟩ := hbo
        have P4 := Lib.hid hp4
        have M4 := Lib.hid hm4
        have S4 := Lib.hid hs4
        have O4 := Lib.hid ho4
        have TO4 := Lib.hid hto4
        have D4 := Lib.hid hd4
        have B4 := Lib.hid hb4
        clear hp4 hm4 hs4 ho4 hto4 hd4 hb4
        rename World => wi
        by_cases hlt : j < S.length
        · obtain ⟨g, o, hgo, hg, hc⟩ := (HR.out.below B4.out).row rowSt (by decide) j hlt
          cases hgo
          have hso := HS.out _ (List.getElem_mem hlt)
          have hs1 := HS1.out _ (List.getElem_mem hlt)
          have hs2 := HSP.out _ (List.getElem_mem hlt)
          generalize S[j] = s at hc hso hs1 hs2
          have cq0 : wi.cell? ⟨g, o + j * 12, none⟩ = some (.int .i64 s.k) := hc 0 _ rfl
          have cq1 : wi.cell? ⟨g, o + j * 12 + 1, none⟩ = some (.int .i64 s.x.kind) := hc 1 _ rfl
          have cq2 : wi.cell? ⟨g, o + j * 12 + 2, none⟩ = some (.int .i64 s.x.src) := hc 2 _ rfl
          have cq3 : wi.cell? ⟨g, o + j * 12 + 3, none⟩ = some (.int .i64 s.x.dst) := hc 3 _ rfl
          have cq4 : wi.cell? ⟨g, o + j * 12 + 4, none⟩ = some (.int .i64 s.x.prio) := hc 4 _ rfl
          have cq5 : wi.cell? ⟨g, o + j * 12 + 5, none⟩ = some (.int .u64 s.x.msg) := hc 5 _ rfl
          have cq6 : wi.cell? ⟨g, o + j * 12 + 6, none⟩ = some (.int .i64 s.x.off) := hc 6 _ rfl
          have cq7 : wi.cell? ⟨g, o + j * 12 + 7, none⟩ = some (.int .i64 s.x.len) := hc 7 _ rfl
          have cq8 : wi.cell? ⟨g, o + j * 12 + 8, none⟩ = some (.int .i64 s.x.total) := hc 8 _ rfl
          have cq9 : wi.cell? ⟨g, o + j * 12 + 9, none⟩ = some (.int .i64 s.x.num) := hc 9 _ rfl
          have cq10 : wi.cell? ⟨g, o + j * 12 + 10, none⟩ = some (.slice s.x.da s.x.dn s.x.dc) := hc 10 _ rfl
          have cq11 : wi.cell? ⟨g, o + j * 12 + 11, none⟩ = some (.int .i64 s.x.path) := hc 11 _ rfl
          clear hc
          have HSO := Lib.hid hso
          have HSK := Lib.hid hs1
          have HSPA := Lib.hid hs2
          clear hso hs1 hs2
          go_upto_region 13 with fail
          have OZ := Lib.hid (Ob.new wi #[.int .i64 s.k, .int .i64 s.x.kind, .int .i64 s.x.src, .int .i64 s.x.dst, .int .i64 s.x.prio, .int .u64 s.x.msg, .int .i64 s.x.off, .int .i64 s.x.len, .int .i64 s.x.total, .int .i64 s.x.num, .slice s.x.da s.x.dn s.x.dc, .int .i64 s.x.path] 51)
          have KA : Hid (Below wi.heap.size wi (wi.alloc (.cells #[.int .i64 s.k, .int .i64 s.x.kind, .int .i64 s.x.src, .int .i64 s.x.dst, .int .i64 s.x.prio, .int .u64 s.x.msg, .int .i64 s.x.off, .int .i64 s.x.len, .int .i64 s.x.total, .int .i64 s.x.num, .slice s.x.da s.x.dn s.x.dc, .int .i64 s.x.path] 51))) := Lib.hid ((Below.refl _ wi).alloc (Nat.le_refl _) _)
          have P5 := Lib.hid (P4.out.below KA.out)
          have M5 := Lib.hid (M4.out.below KA.out)
          have B5 := Lib.hid (B4.out.trans (KA.out.mono B4.out.size))
          obtain ⟨Z, HZ⟩ : ∃ Z, Hid (wi.heap.size = Z) := ⟨_, Lib.hid rfl⟩
          rw [HZ.out] at OZ ⊢
          clear KA cq0 cq1 cq2 cq3 cq4 cq5 cq6 cq7 cq8 cq9 cq10 cq11
          generalize wi.alloc (.cells #[.int .i64 s.k, .int .i64 s.x.kind, .int .i64 s.x.src, .int .i64 s.x.dst, .int .i64 s.x.prio, .int .u64 s.x.msg, .int .i64 s.x.off, .int .i64 s.x.len, .int .i64 s.x.total, .int .i64 s.x.num, .slice s.x.da s.x.dn s.x.dc, .int .i64 s.x.path] 51) = w5 at *
          have lz := OZ.out.lt
          have cz0 : w5.cell? ⟨Z, 0, none⟩ = some (.int .i64 s.k) := (OZ.out.blk).2.1 0
          go_upto_block 2 with fail
          go_cut [15, 16, 17, 18, 19, 20, 21, 22, 23, 24] from 68 to 163 (fun _ _ _ _ _ _ _ _ _ _ wx => Bo b w1.heap.size m w (j + 1) wx)
          case first =>
            have cells := (OZ.out.blk).2.1
            have cz1 : w5.cell? ⟨Z, 1, none⟩ = some (.int .i64 s.x.kind) := cells 1
            have cz2 : w5.cell? ⟨Z, 2, none⟩ = some (.int .i64 s.x.src) := cells 2
            have cz3 : w5.cell? ⟨Z, 3, none⟩ = some (.int .i64 s.x.dst) := cells 3
            have cz4 : w5.cell? ⟨Z, 4, none⟩ = some (.int .i64 s.x.prio) := cells 4
            have cz5 : w5.cell? ⟨Z, 5, none⟩ = some (.int .u64 s.x.msg) := cells 5
            have cz6 : w5.cell? ⟨Z, 6, none⟩ = some (.int .i64 s.x.off) := cells 6
            have cz7 : w5.cell? ⟨Z, 7, none⟩ = some (.int .i64 s.x.len) := cells 7
            have cz8 : w5.cell? ⟨Z, 8, none⟩ = some (.int .i64 s.x.total) := cells 8
            have cz9 : w5.cell? ⟨Z, 9, none⟩ = some (.int .i64 s.x.num) := cells 9
            have cz10 : w5.cell? ⟨Z, 10, none⟩ = some (.slice s.x.da s.x.dn s.x.dc) := cells 10
            have cz11 : w5.cell? ⟨Z, 11, none⟩ = some (.int .i64 s.x.path) := cells 11
            clear cells
            have hZM : ¬ (PM b l4 Z ∨ Z = m) := fun hh => by
              rcases hh with hh | hh
              · obtain ⟨T, h1, h2, h3⟩ := P5.out.pmT hh
                exact P5.out.noT hh OZ.out.ty (by decide)
              · exact absurd (Ty.one (by rw [hh] at OZ; exact OZ.out.ty) M5.out.ob.ty) (by decide)
            by_cases hk1 : s.k = 1
            · have hkb : (s.k == 1) = true := beq_iff_eq.2 hk1
              obtain ⟨x2, xF⟩ := HSK.out hk1
              have X2 := Lib.hid x2
              have XO : Hid s.x.ok := Lib.hid ⟨x2.dn, by have := x2.len; omega⟩
              clear hk1 x2 xF
              go_wp2_with fail
              have hge : ∀ y, PM b l4 y → w.heap.size ≤ y := fun y hy => Nat.le_trans B1.out.size (P5.out.ge hy)
              have HRX := Lib.hid (HSO.out.2.2.below B5.out)
              refine wp_run (M := (fun y => PM b l4 y ∨ y = m)) (stages [([true, true, true, true, true, true, false, true, true, true, true, true, true, false, false], 6), ([false, false, false, false, false, false, false, false, false, false, false, false, false, false, false], 13)] [false, false, false, false, false, false, false, false, false, false, false, false, false, false, true]) (by kernel_rfl) (by kernel_rfl) ?_
              refine run_stage rfl ?_
              simp only [pickAt]
              repeat (go_big_quiet_step (fail))
              refine wpQuiet_nil ?_
              refine run_want rfl ?_
              intro A hA
              go_simp
              have P5d := P5.out.keptF (Kept.drew (fun _ => False) w5)
              have M5d := M5.out.keptF (Kept.drew (fun _ => False) w5)
              have hpu := put_any b w1.heap.size l4 p4 j s.x w5.drew P5d (HRX.out.kept (Kept.drew (fun _ => False) w5) (fun _ _ _ _ h => h)) O4.out (by omega) XO.out
              unfold It.val at hpu
              refine hpu.mono ?_
              rintro e w6 ⟨r, p6, rfl, ⟨l6, hp6, hk6, hf6⟩, hrel⟩
              have M6 := Lib.hid (M5d.ofPo P5d hk6)
              have P6 := Lib.hid hp6
              have B6 := Lib.hid ((B5.out.drew).trans (hk6.belowAt B5.out.size hge))
              have HREL := Lib.hid hrel
              refine hA _ _ (hk6.mono (fun _ _ h => .inl h)) ?_
              try simp only [Act.put, List.setIfInBounds_toArray, List.set_cons_zero, List.set_cons_succ]
              clear A hA
              clear hpu hp6 hk6 hf6 hrel P5d M5d
              refine run_stage rfl ?_
              simp only [pickAt]
              repeat (go_big_quiet_step (fail))
              refine wpQuiet_nil ?_
              refine run_want rfl ?_
              intro A hA
              go_simp
              have hmp := mput_any m U4 uc4 t4 j s.x w6 M6.out TO4.out (by omega) X2.out
              unfold It.val at hmp
              refine hmp.mono ?_
              rintro e w7 ⟨r', t7, rfl, ⟨U7, uc7, hm7, hk7⟩, hrel'⟩
              obtain ⟨hrr, S7⟩ := S4.out.put O4.out TO4.out rfl X2.out HREL.out hrel'
              subst hrr
              have BO : Hid (Bo b w1.heap.size m w (j + 1) w7) := Lib.hid ⟨⟨l6, p6, U7, uc7, t7, P6.out.ofMo M6.out hk7, hm7, S7, HREL.out.ok O4.out XO.out, hrel'.ok TO4.out X2.out, hrel'.dat D4.out ⟨HSO.out.2.1, HSO.out.2.2⟩⟩, B6.out.trans (hk7.belowAt B6.out.size (fun y hy => by rw [show y = m from hy]; exact HMG.out))⟩
              refine hA _ _ (hk7.mono (fun _ _ h => .inr h)) ?_
              try simp only [Act.put, List.setIfInBounds_toArray, List.set_cons_zero, List.set_cons_succ]
              clear A hA
              clear hmp hm7 hk7 hrel' S7
              refine run_last ?_
              simp only [pickAt]
              repeat (go_big_quiet_step (fail))
              refine wpQuiet_nil ?_
              go_wp2_with fail
              go_meet
              exact BO.out
            · have hkb : (s.k == 1) = false := beq_eq_false_iff_ne.2 hk1
              clear hk1
              by_cases hk2 : s.k = 2
              · have hkb2 : (s.k == 2) = true := beq_iff_eq.2 hk2
                clear hk2
                have hge : ∀ y, PM b l4 y → w.heap.size ≤ y := fun y hy => Nat.le_trans B1.out.size (P5.out.ge hy)
                go_wp2_with fail
                refine (take_any b w1.heap.size l4 p4 j s.x.path _ P5.out O4.out (by omega)).mono ?_
                rintro e w6 ⟨x, ok, p6, rfl, ⟨l6, hp6, hk6, hf6⟩, hrel⟩
                have HREL := Lib.hid hrel
                have M6 := Lib.hid (M5.out.ofPo P5.out hk6)
                have P6 := Lib.hid hp6
                have B6 := Lib.hid (B5.out.trans (hk6.belowAt B5.out.size hge))
                have DX6 : Hid (Da w1.heap.size w6 x) := Lib.hid (by
                  rcases hrel.has with rfl | hx
                  · exact World.ownsRow_nil _ _ _ _
                  · exact (P5.out.data x hx).keptT hk6 fun g hg _ => P5.out.ty hg)
                have OZ6 := Lib.hid (OZ.out.kept hk6 (fun hh => hZM (.inl hh)))
                clear hp6 hk6 hf6 hrel lz cz0 cz1 cz2 cz3 cz4 cz5 cz6 cz7 cz8 cz9 cz10 cz11
                have lz := OZ6.out.lt
                unfold boxV
                go_upto_region 19 with fail
                have OA := Lib.hid (Ob.new w6 #[.int .i64 x.kind, .int .i64 x.src, .int .i64 x.dst, .int .i64 x.prio, .int .u64 x.msg, .int .i64 x.off, .int .i64 x.len, .int .i64 x.total, .int .i64 x.num, .slice x.da x.dn x.dc, .int .i64 x.path] TIt)
                have KA : Hid (Below w6.heap.size w6 (w6.alloc (.cells #[.int .i64 x.kind, .int .i64 x.src, .int .i64 x.dst, .int .i64 x.prio, .int .u64 x.msg, .int .i64 x.off, .int .i64 x.len, .int .i64 x.total, .int .i64 x.num, .slice x.da x.dn x.dc, .int .i64 x.path] TIt))) := Lib.hid ((Below.refl _ w6).alloc (Nat.le_refl _) _)
                have P7 := Lib.hid (P6.out.below KA.out)
                have M7 := Lib.hid (M6.out.below KA.out)
                have B7 := Lib.hid (B6.out.trans (KA.out.mono B6.out.size))
                have OZ7 := Lib.hid (OZ6.out.below KA.out)
                have DX7 := Lib.hid (DX6.out.kept (Kept.of_below (M := fun _ => False) KA.out) (fun _ _ h => h))
                obtain ⟨A, HA⟩ : ∃ A, Hid (w6.heap.size = A) := ⟨_, Lib.hid rfl⟩
                rw [HA.out] at OA ⊢
                clear KA lz
                generalize w6.alloc (.cells #[.int .i64 x.kind, .int .i64 x.src, .int .i64 x.dst, .int .i64 x.prio, .int .u64 x.msg, .int .i64 x.off, .int .i64 x.len, .int .i64 x.total, .int .i64 x.num, .slice x.da x.dn x.dc, .int .i64 x.path] TIt) = w7 at *
                have hAm : ¬ Only m A := fun hh => absurd (Ty.one (by rw [show A = m from hh] at OA; exact OA.out.ty) M7.out.ob.ty) (by decide)
                have lz := OZ7.out.lt
                have cz11 : w7.cell? ⟨Z, 11, none⟩ = some (.int .i64 s.x.path) := (OZ7.out.blk).2.1 11
                go_wp2_with fail
                refine (mtake_any m U4 uc4 t4 j s.x.path _ M7.out TO4.out (by have := S4.out.now; have := S4.out.pnow; omega) (by rw [S4.out.last]; have := S4.out.pok.l0; have := S4.out.pok.l1; have := S4.out.pok.n1; omega)).mono ?_
                rintro e w8 ⟨x', ok', t8, rfl, ⟨U8, uc8, hm8, hk8⟩, hrel'⟩
                obtain ⟨hokk, hpl, S8⟩ := S4.out.take rfl rfl HREL.out hrel'
                subst hokk
                have P8 := Lib.hid (P7.out.ofMo M7.out hk8)
                have B8 := Lib.hid (B7.out.trans (hk8.belowAt B7.out.size (fun y hy => by rw [show y = m from hy]; exact HMG.out)))
                have DX8 := Lib.hid (DX7.out.keptT hk8 fun g hg _ => ⟨TM, by rw [show g = m from hg]; exact M7.out.ob.ty, by decide⟩)
                have OA8 := Lib.hid (OA.out.kept hk8 hAm)
                have BO8 : Hid (Bo b w1.heap.size m w (j + 1) w8) := Lib.hid ⟨⟨l6, p6, U8, uc8, t8, P8.out, hm8, S8, (HREL.out.ok O4.out).up, (hrel'.ok TO4.out).up, D4.out.sub hrel'.has.1⟩, B8.out⟩
                have HDX : Hid (x'.dn = x'.bs.length ∧ Rd w 1 (.slice x'.da x'.dn x'.dc) x'.dn (bcells x'.bs)) := Lib.hid (by
                  rcases hrel'.has.2 with rfl | hx
                  · exact ⟨rfl, .inl ⟨rfl, rfl, rfl⟩⟩
                  · exact D4.out _ hx)
                obtain ⟨a9, c9, hxx⟩ : ∃ a c, x = x'.data a c := ⟨_, _, plain_eq hpl⟩
                subst hxx
                have OA9 : Hid (Ob w8 A #[.int .i64 x'.kind, .int .i64 x'.src, .int .i64 x'.dst, .int .i64 x'.prio, .int .u64 x'.msg, .int .i64 x'.off, .int .i64 x'.len, .int .i64 x'.total, .int .i64 x'.num, .slice a9 x'.dn c9, .int .i64 x'.path] TIt) := OA8
                have DX9 : Hid (Rd w8 1 (.slice a9 x'.dn c9) x'.dn (bcells x'.bs)) := Lib.hid (Rd.of_own DX8.out)
                clear hm8 hk8 hrel' S8 hpl lz cz11 OA8
                have la := OA9.out.lt
                unfold boxV
                go_upto_region 20 with fail
                have OB := Lib.hid (Ob.new w8 #[.int .i64 x'.kind, .int .i64 x'.src, .int .i64 x'.dst, .int .i64 x'.prio, .int .u64 x'.msg, .int .i64 x'.off, .int .i64 x'.len, .int .i64 x'.total, .int .i64 x'.num, .slice x'.da x'.dn x'.dc, .int .i64 x'.path] TX)
                have KB : Hid (Below w8.heap.size w8 (w8.alloc (.cells #[.int .i64 x'.kind, .int .i64 x'.src, .int .i64 x'.dst, .int .i64 x'.prio, .int .u64 x'.msg, .int .i64 x'.off, .int .i64 x'.len, .int .i64 x'.total, .int .i64 x'.num, .slice x'.da x'.dn x'.dc, .int .i64 x'.path] TX))) := Lib.hid ((Below.refl _ w8).alloc (Nat.le_refl _) _)
                have OA10 := Lib.hid (OA9.out.below KB.out)
                have BO10 : Hid (Bo b w1.heap.size m w (j + 1) (w8.alloc (.cells #[.int .i64 x'.kind, .int .i64 x'.src, .int .i64 x'.dst, .int .i64 x'.prio, .int .u64 x'.msg, .int .i64 x'.off, .int .i64 x'.len, .int .i64 x'.total, .int .i64 x'.num, .slice x'.da x'.dn x'.dc, .int .i64 x'.path] TX))) := Lib.hid (BO8.out.below KB.out)
                have DX10 := Lib.hid (DX9.out.below KB.out)
                have B10 := Lib.hid (B8.out.trans (KB.out.mono B8.out.size))
                obtain ⟨B, HB'⟩ : ∃ B, Hid (w8.heap.size = B) := ⟨_, Lib.hid rfl⟩
                rw [HB'.out] at OB ⊢
                clear KB la
                generalize w8.alloc (.cells #[.int .i64 x'.kind, .int .i64 x'.src, .int .i64 x'.dst, .int .i64 x'.prio, .int .u64 x'.msg, .int .i64 x'.off, .int .i64 x'.len, .int .i64 x'.total, .int .i64 x'.num, .slice x'.da x'.dn x'.dc, .int .i64 x'.path] TX) = w10 at *
                have la := OA10.out.lt
                have lb := OB.out.lt
                have cells := (OA10.out.blk).2.1
                have ca0 : w10.cell? ⟨A, 0, none⟩ = some (.int .i64 x'.kind) := cells 0
                have ca1 : w10.cell? ⟨A, 1, none⟩ = some (.int .i64 x'.src) := cells 1
                have ca2 : w10.cell? ⟨A, 2, none⟩ = some (.int .i64 x'.dst) := cells 2
                have ca3 : w10.cell? ⟨A, 3, none⟩ = some (.int .i64 x'.prio) := cells 3
                have ca4 : w10.cell? ⟨A, 4, none⟩ = some (.int .u64 x'.msg) := cells 4
                have ca5 : w10.cell? ⟨A, 5, none⟩ = some (.int .i64 x'.off) := cells 5
                have ca6 : w10.cell? ⟨A, 6, none⟩ = some (.int .i64 x'.len) := cells 6
                have ca7 : w10.cell? ⟨A, 7, none⟩ = some (.int .i64 x'.total) := cells 7
                have ca8 : w10.cell? ⟨A, 8, none⟩ = some (.int .i64 x'.num) := cells 8
                have ca9 : w10.cell? ⟨A, 9, none⟩ = some (.slice a9 x'.dn c9) := cells 9
                have ca10 : w10.cell? ⟨A, 10, none⟩ = some (.int .i64 x'.path) := cells 10
                clear cells
                have cells := (OB.out.blk).2.1
                have cb0 : w10.cell? ⟨B, 0, none⟩ = some (.int .i64 x'.kind) := cells 0
                have cb1 : w10.cell? ⟨B, 1, none⟩ = some (.int .i64 x'.src) := cells 1
                have cb2 : w10.cell? ⟨B, 2, none⟩ = some (.int .i64 x'.dst) := cells 2
                have cb3 : w10.cell? ⟨B, 3, none⟩ = some (.int .i64 x'.prio) := cells 3
                have cb4 : w10.cell? ⟨B, 4, none⟩ = some (.int .u64 x'.msg) := cells 4
                have cb5 : w10.cell? ⟨B, 5, none⟩ = some (.int .i64 x'.off) := cells 5
                have cb6 : w10.cell? ⟨B, 6, none⟩ = some (.int .i64 x'.len) := cells 6
                have cb7 : w10.cell? ⟨B, 7, none⟩ = some (.int .i64 x'.total) := cells 7
                have cb8 : w10.cell? ⟨B, 8, none⟩ = some (.int .i64 x'.num) := cells 8
                have cb9 : w10.cell? ⟨B, 9, none⟩ = some (.slice x'.da x'.dn x'.dc) := cells 9
                have cb10 : w10.cell? ⟨B, 10, none⟩ = some (.int .i64 x'.path) := cells 10
                clear cells
                have hls := lsame x' a9 c9 w10 HDX.out.1 DX10.out (HDX.out.2.below B10.out)
                replace hls : Calls Try.prog 21 #[.agg #[.int .i64 x'.kind, .int .i64 x'.src, .int .i64 x'.dst, .int .i64 x'.prio, .int .u64 x'.msg, .int .i64 x'.off, .int .i64 x'.len, .int .i64 x'.total, .int .i64 x'.num, .slice a9 x'.dn c9, .int .i64 x'.path], .agg #[.int .i64 x'.kind, .int .i64 x'.src, .int .i64 x'.dst, .int .i64 x'.prio, .int .u64 x'.msg, .int .i64 x'.off, .int .i64 x'.len, .int .i64 x'.total, .int .i64 x'.num, .slice x'.da x'.dn x'.dc, .int .i64 x'.path]] w10 _ := hls
                go_wp2_with fail
                refine (hls).mono ?_
                rintro e w11 ⟨rfl, hb11⟩
                have BO11 : Hid (Bo b w1.heap.size m w (j + 1) w11) := Lib.hid (BO10.out.below hb11)
                clear hls hb11
                go_wp2_with fail
                go_meet
                exact BO11.out
              · have hkb2 : (s.k == 2) = false := beq_eq_false_iff_ne.2 hk2
                clear hk2
                by_cases hk3 : s.k = 3
                · have hkb3 : (s.k == 3) = true := beq_iff_eq.2 hk3
                  clear hk3
                  have hge : ∀ y, PM b l4 y → w.heap.size ≤ y := fun y hy => Nat.le_trans B1.out.size (P5.out.ge hy)
                  go_wp2_with fail
                  refine (dropB b w1.heap.size l4 p4 j s.x.path _ P5.out O4.out (by omega)).mono ?_
                  rintro e w6 ⟨x, ok, p6, rfl, ⟨l6, hp6, hk6, hf6⟩, hrel⟩
                  have HREL := Lib.hid hrel
                  have M6 := Lib.hid (M5.out.ofPo P5.out hk6)
                  have P6 := Lib.hid hp6
                  have B6 := Lib.hid (B5.out.trans (hk6.belowAt B5.out.size hge))
                  have DX6 : Hid (Da w1.heap.size w6 x) := Lib.hid (by
                    rcases hrel.has with rfl | hx
                    · exact World.ownsRow_nil _ _ _ _
                    · exact (P5.out.data x hx).keptT hk6 fun g hg _ => P5.out.ty hg)
                  have OZ6 := Lib.hid (OZ.out.kept hk6 (fun hh => hZM (.inl hh)))
                  clear hp6 hk6 hf6 hrel lz cz0 cz1 cz2 cz3 cz4 cz5 cz6 cz7 cz8 cz9 cz10 cz11
                  have lz := OZ6.out.lt
                  unfold boxV
                  go_upto_region 24 with fail
                  have OA := Lib.hid (Ob.new w6 #[.int .i64 x.kind, .int .i64 x.src, .int .i64 x.dst, .int .i64 x.prio, .int .u64 x.msg, .int .i64 x.off, .int .i64 x.len, .int .i64 x.total, .int .i64 x.num, .slice x.da x.dn x.dc, .int .i64 x.path] TIt)
                  have KA : Hid (Below w6.heap.size w6 (w6.alloc (.cells #[.int .i64 x.kind, .int .i64 x.src, .int .i64 x.dst, .int .i64 x.prio, .int .u64 x.msg, .int .i64 x.off, .int .i64 x.len, .int .i64 x.total, .int .i64 x.num, .slice x.da x.dn x.dc, .int .i64 x.path] TIt))) := Lib.hid ((Below.refl _ w6).alloc (Nat.le_refl _) _)
                  have P7 := Lib.hid (P6.out.below KA.out)
                  have M7 := Lib.hid (M6.out.below KA.out)
                  have B7 := Lib.hid (B6.out.trans (KA.out.mono B6.out.size))
                  have OZ7 := Lib.hid (OZ6.out.below KA.out)
                  have DX7 := Lib.hid (DX6.out.kept (Kept.of_below (M := fun _ => False) KA.out) (fun _ _ h => h))
                  obtain ⟨A, HA⟩ : ∃ A, Hid (w6.heap.size = A) := ⟨_, Lib.hid rfl⟩
                  rw [HA.out] at OA ⊢
                  clear KA lz
                  generalize w6.alloc (.cells #[.int .i64 x.kind, .int .i64 x.src, .int .i64 x.dst, .int .i64 x.prio, .int .u64 x.msg, .int .i64 x.off, .int .i64 x.len, .int .i64 x.total, .int .i64 x.num, .slice x.da x.dn x.dc, .int .i64 x.path] TIt) = w7 at *
                  have hAm : ¬ Only m A := fun hh => absurd (Ty.one (by rw [show A = m from hh] at OA; exact OA.out.ty) M7.out.ob.ty) (by decide)
                  have lz := OZ7.out.lt
                  have cz11 : w7.cell? ⟨Z, 11, none⟩ = some (.int .i64 s.x.path) := (OZ7.out.blk).2.1 11
                  go_wp2_with fail
                  refine (mdropB m U4 uc4 t4 j s.x.path _ M7.out TO4.out (by omega) HSPA.out).mono ?_
                  rintro e w8 ⟨x', ok', t8, rfl, ⟨U8, uc8, hm8, hk8⟩, hrel'⟩
                  obtain ⟨hokk, hpl, S8⟩ := S4.out.dropB HREL.out hrel'
                  subst hokk
                  have P8 := Lib.hid (P7.out.ofMo M7.out hk8)
                  have B8 := Lib.hid (B7.out.trans (hk8.belowAt B7.out.size (fun y hy => by rw [show y = m from hy]; exact HMG.out)))
                  have DX8 := Lib.hid (DX7.out.keptT hk8 fun g hg _ => ⟨TM, by rw [show g = m from hg]; exact M7.out.ob.ty, by decide⟩)
                  have OA8 := Lib.hid (OA.out.kept hk8 hAm)
                  have BO8 : Hid (Bo b w1.heap.size m w (j + 1) w8) := Lib.hid ⟨⟨l6, p6, U8, uc8, t8, P8.out, hm8, S8, (HREL.out.ok O4.out).up, (hrel'.ok TO4.out).up, D4.out.sub hrel'.has.1⟩, B8.out⟩
                  have HDX : Hid (x'.dn = x'.bs.length ∧ Rd w 1 (.slice x'.da x'.dn x'.dc) x'.dn (bcells x'.bs)) := Lib.hid (by
                    rcases hrel'.has.2 with rfl | hx
                    · exact ⟨rfl, .inl ⟨rfl, rfl, rfl⟩⟩
                    · exact D4.out _ hx)
                  obtain ⟨a9, c9, hxx⟩ : ∃ a c, x = x'.data a c := ⟨_, _, plain_eq hpl⟩
                  subst hxx
                  have OA9 : Hid (Ob w8 A #[.int .i64 x'.kind, .int .i64 x'.src, .int .i64 x'.dst, .int .i64 x'.prio, .int .u64 x'.msg, .int .i64 x'.off, .int .i64 x'.len, .int .i64 x'.total, .int .i64 x'.num, .slice a9 x'.dn c9, .int .i64 x'.path] TIt) := OA8
                  have DX9 : Hid (Rd w8 1 (.slice a9 x'.dn c9) x'.dn (bcells x'.bs)) := Lib.hid (Rd.of_own DX8.out)
                  clear hm8 hk8 hrel' S8 hpl lz cz11 OA8
                  have la := OA9.out.lt
                  unfold boxV
                  go_upto_region 25 with fail
                  have OB := Lib.hid (Ob.new w8 #[.int .i64 x'.kind, .int .i64 x'.src, .int .i64 x'.dst, .int .i64 x'.prio, .int .u64 x'.msg, .int .i64 x'.off, .int .i64 x'.len, .int .i64 x'.total, .int .i64 x'.num, .slice x'.da x'.dn x'.dc, .int .i64 x'.path] TX)
                  have KB : Hid (Below w8.heap.size w8 (w8.alloc (.cells #[.int .i64 x'.kind, .int .i64 x'.src, .int .i64 x'.dst, .int .i64 x'.prio, .int .u64 x'.msg, .int .i64 x'.off, .int .i64 x'.len, .int .i64 x'.total, .int .i64 x'.num, .slice x'.da x'.dn x'.dc, .int .i64 x'.path] TX))) := Lib.hid ((Below.refl _ w8).alloc (Nat.le_refl _) _)
                  have OA10 := Lib.hid (OA9.out.below KB.out)
                  have BO10 : Hid (Bo b w1.heap.size m w (j + 1) (w8.alloc (.cells #[.int .i64 x'.kind, .int .i64 x'.src, .int .i64 x'.dst, .int .i64 x'.prio, .int .u64 x'.msg, .int .i64 x'.off, .int .i64 x'.len, .int .i64 x'.total, .int .i64 x'.num, .slice x'.da x'.dn x'.dc, .int .i64 x'.path] TX))) := Lib.hid (BO8.out.below KB.out)
                  have DX10 := Lib.hid (DX9.out.below KB.out)
                  have B10 := Lib.hid (B8.out.trans (KB.out.mono B8.out.size))
                  obtain ⟨B, HB'⟩ : ∃ B, Hid (w8.heap.size = B) := ⟨_, Lib.hid rfl⟩
                  rw [HB'.out] at OB ⊢
                  clear KB la
                  generalize w8.alloc (.cells #[.int .i64 x'.kind, .int .i64 x'.src, .int .i64 x'.dst, .int .i64 x'.prio, .int .u64 x'.msg, .int .i64 x'.off, .int .i64 x'.len, .int .i64 x'.total, .int .i64 x'.num, .slice x'.da x'.dn x'.dc, .int .i64 x'.path] TX) = w10 at *
                  have la := OA10.out.lt
                  have lb := OB.out.lt
                  have cells := (OA10.out.blk).2.1
                  have ca0 : w10.cell? ⟨A, 0, none⟩ = some (.int .i64 x'.kind) := cells 0
                  have ca1 : w10.cell? ⟨A, 1, none⟩ = some (.int .i64 x'.src) := cells 1
                  have ca2 : w10.cell? ⟨A, 2, none⟩ = some (.int .i64 x'.dst) := cells 2
                  have ca3 : w10.cell? ⟨A, 3, none⟩ = some (.int .i64 x'.prio) := cells 3
                  have ca4 : w10.cell? ⟨A, 4, none⟩ = some (.int .u64 x'.msg) := cells 4
                  have ca5 : w10.cell? ⟨A, 5, none⟩ = some (.int .i64 x'.off) := cells 5
                  have ca6 : w10.cell? ⟨A, 6, none⟩ = some (.int .i64 x'.len) := cells 6
                  have ca7 : w10.cell? ⟨A, 7, none⟩ = some (.int .i64 x'.total) := cells 7
                  have ca8 : w10.cell? ⟨A, 8, none⟩ = some (.int .i64 x'.num) := cells 8
                  have ca9 : w10.cell? ⟨A, 9, none⟩ = some (.slice a9 x'.dn c9) := cells 9
                  have ca10 : w10.cell? ⟨A, 10, none⟩ = some (.int .i64 x'.path) := cells 10
                  clear cells
                  have cells := (OB.out.blk).2.1
                  have cb0 : w10.cell? ⟨B, 0, none⟩ = some (.int .i64 x'.kind) := cells 0
                  have cb1 : w10.cell? ⟨B, 1, none⟩ = some (.int .i64 x'.src) := cells 1
                  have cb2 : w10.cell? ⟨B, 2, none⟩ = some (.int .i64 x'.dst) := cells 2
                  have cb3 : w10.cell? ⟨B, 3, none⟩ = some (.int .i64 x'.prio) := cells 3
                  have cb4 : w10.cell? ⟨B, 4, none⟩ = some (.int .u64 x'.msg) := cells 4
                  have cb5 : w10.cell? ⟨B, 5, none⟩ = some (.int .i64 x'.off) := cells 5
                  have cb6 : w10.cell? ⟨B, 6, none⟩ = some (.int .i64 x'.len) := cells 6
                  have cb7 : w10.cell? ⟨B, 7, none⟩ = some (.int .i64 x'.total) := cells 7
                  have cb8 : w10.cell? ⟨B, 8, none⟩ = some (.int .i64 x'.num) := cells 8
                  have cb9 : w10.cell? ⟨B, 9, none⟩ = some (.slice x'.da x'.dn x'.dc) := cells 9
                  have cb10 : w10.cell? ⟨B, 10, none⟩ = some (.int .i64 x'.path) := cells 10
                  clear cells
                  have hls := lsame x' a9 c9 w10 HDX.out.1 DX10.out (HDX.out.2.below B10.out)
                  replace hls : Calls Try.prog 21 #[.agg #[.int .i64 x'.kind, .int .i64 x'.src, .int .i64 x'.dst, .int .i64 x'.prio, .int .u64 x'.msg, .int .i64 x'.off, .int .i64 x'.len, .int .i64 x'.total, .int .i64 x'.num, .slice a9 x'.dn c9, .int .i64 x'.path], .agg #[.int .i64 x'.kind, .int .i64 x'.src, .int .i64 x'.dst, .int .i64 x'.prio, .int .u64 x'.msg, .int .i64 x'.off, .int .i64 x'.len, .int .i64 x'.total, .int .i64 x'.num, .slice x'.da x'.dn x'.dc, .int .i64 x'.path]] w10 _ := hls
                  go_wp2_with fail
                  refine (hls).mono ?_
                  rintro e w11 ⟨rfl, hb11⟩
                  have BO11 : Hid (Bo b w1.heap.size m w (j + 1) w11) := Lib.hid (BO10.out.below hb11)
                  clear hls hb11
                  go_wp2_with fail
                  go_meet
                  exact BO11.out
                · have hkb3 : (s.k == 3) = false := beq_eq_false_iff_ne.2 hk3
                  clear hk3
                  by_cases hk4 : s.k = 4
                  · have hkb4 : (s.k == 4) = true := beq_iff_eq.2 hk4
                    clear hk4
                    by_cases hin : 0 ≤ s.x.path ∧ s.x.path < t4.waits.length
                    case neg =>
                      have hor : s.x.path < 0 ∨ (0 ≤ s.x.path ∧ (t4.waits.length : Int) ≤ s.x.path) := by omega
                      clear hin
                      rcases hor with h1 | ⟨h1, h2⟩
                      all_goals
                        go_wp2_with fail
                        refine (mwait m U4 uc4 t4 j w5 M5.out TO4.out (by omega)).mono ?_
                        rintro e w6 ⟨v6, rfl, ho6, hb6⟩
                        obtain ⟨a6, c6, rfl, _, _⟩ := (Rd.of_own ho6).form
                        have HO6 := Lib.hid ho6
                        have P6 := Lib.hid (P5.out.below hb6)
                        have M6 := Lib.hid (M5.out.below hb6)
                        have B6 := Lib.hid (B5.out.trans (hb6.mono B5.out.size))
                        have OZ6 := Lib.hid (OZ.out.below hb6)
                        have HWL := Lib.hid S4.out.waits.len
                        have hwl : t4.waits.length ≤ 1000000 := by
                          have h1 := wfrom_len t4.L j TO4.out.len 8 (by decide)
                          have h2 := TO4.out.clen
                          unfold Mp.waits
                          rw [List.length_append]
                          omega
                        clear ho6 hb6 lz cz0 cz1 cz2 cz3 cz4 cz5 cz6 cz7 cz8 cz9 cz10 cz11
                        have lz := OZ6.out.lt
                        have cz11 : w6.cell? ⟨Z, 11, none⟩ = some (.int .i64 s.x.path) := (OZ6.out.blk).2.1 11
                        go_wp2_with fail
                        refine (double_no b w1.heap.size l4 p4 s.x.path _ P6.out (O4.out.lens (by omega)) (by rw [HWL.out]; omega)).mono ?_
                        rintro e w7 ⟨rfl, hb7⟩
                        have BO7 : Hid (Bo b w1.heap.size m w (j + 1) w7) := Lib.hid ⟨⟨l4, p4, U4, uc4, t4, P6.out.below hb7, M6.out.below hb7, S4.out, O4.out.up, TO4.out.up, D4.out⟩, B6.out.trans (hb7.mono B6.out.size)⟩
                        clear hb7
                        go_wp2_with fail
                        go_meet
                        exact BO7.out
                    case pos =>
                      go_wp2_with fail
                      refine (mwait m U4 uc4 t4 j w5 M5.out TO4.out (by omega)).mono ?_
                      rintro e w6 ⟨v6, rfl, ho6, hb6⟩
                      obtain ⟨a6, c6, rfl, _, _⟩ := (Rd.of_own ho6).form
                      have HO6 := Lib.hid ho6
                      have P6 := Lib.hid (P5.out.below hb6)
                      have M6 := Lib.hid (M5.out.below hb6)
                      have B6 := Lib.hid (B5.out.trans (hb6.mono B5.out.size))
                      have OZ6 := Lib.hid (OZ.out.below hb6)
                      have HWL := Lib.hid S4.out.waits.len
                      have hwl : t4.waits.length ≤ 1000000 := by
                        have h1 := wfrom_len t4.L j TO4.out.len 8 (by decide)
                        have h2 := TO4.out.clen
                        unfold Mp.waits
                        rw [List.length_append]
                        omega
                      clear ho6 hb6 lz cz0 cz1 cz2 cz3 cz4 cz5 cz6 cz7 cz8 cz9 cz10 cz11
                      have lz := OZ6.out.lt
                      have cz11 : w6.cell? ⟨Z, 11, none⟩ = some (.int .i64 s.x.path) := (OZ6.out.blk).2.1 11
                      obtain ⟨q, hq⟩ : ∃ q : Nat, s.x.path = q := ⟨s.x.path.toNat, by omega⟩
                      have HQ := Lib.hid hq
                      have hqw : q < t4.waits.length := by omega
                      have hqp : q < p4.waits.length := by rw [HWL.out]; exact hqw
                      rw [hq] at cz11
                      clear hq hin
                      obtain ⟨g6, o6, hgo6, hg6, hc6⟩ := (Rd.of_own HO6.out).row rowIt (by decide) q hqw
                      cases hgo6
                      obtain ⟨_, hpl⟩ := S4.out.waits.nth q hqp
                      have hm' := mem_mwaits (List.getElem_mem hqw)
                      obtain ⟨y', hy'⟩ : ∃ y', t4.waits[q] = y' := ⟨_, rfl⟩
                      have hc2 : ∀ i u, (y'.row)[i]? = some u → w6.cell? ⟨g6, o6 + q * 11 + i, none⟩ = some u := fun i u hi => hc6 i u (by show (It.row (t4.waits[q]))[i]? = _; rw [hy']; exact hi)
                      have hpl' : (p4.waits[q]).plain = (t4.waits[q]).plain := hpl
                      rw [hy'] at hpl' hm'
                      have cw0 : w6.cell? ⟨g6, o6 + q * 11, none⟩ = some (.int .i64 y'.kind) := hc2 0 _ rfl
                      have cw1 : w6.cell? ⟨g6, o6 + q * 11 + 1, none⟩ = some (.int .i64 y'.src) := hc2 1 _ rfl
                      have cw2 : w6.cell? ⟨g6, o6 + q * 11 + 2, none⟩ = some (.int .i64 y'.dst) := hc2 2 _ rfl
                      have cw3 : w6.cell? ⟨g6, o6 + q * 11 + 3, none⟩ = some (.int .i64 y'.prio) := hc2 3 _ rfl
                      have cw4 : w6.cell? ⟨g6, o6 + q * 11 + 4, none⟩ = some (.int .u64 y'.msg) := hc2 4 _ rfl
                      have cw5 : w6.cell? ⟨g6, o6 + q * 11 + 5, none⟩ = some (.int .i64 y'.off) := hc2 5 _ rfl
                      have cw6 : w6.cell? ⟨g6, o6 + q * 11 + 6, none⟩ = some (.int .i64 y'.len) := hc2 6 _ rfl
                      have cw7 : w6.cell? ⟨g6, o6 + q * 11 + 7, none⟩ = some (.int .i64 y'.total) := hc2 7 _ rfl
                      have cw8 : w6.cell? ⟨g6, o6 + q * 11 + 8, none⟩ = some (.int .i64 y'.num) := hc2 8 _ rfl
                      have cw9 : w6.cell? ⟨g6, o6 + q * 11 + 9, none⟩ = some (.slice y'.da y'.dn y'.dc) := hc2 9 _ rfl
                      have cw10 : w6.cell? ⟨g6, o6 + q * 11 + 10, none⟩ = some (.int .i64 y'.path) := hc2 10 _ rfl
                      have Y2 := Lib.hid (TO4.out.items _ hm')
                      have YD := Lib.hid (D4.out _ hm')
                      have HPL := Lib.hid hpl'
                      clear hc6 hc2 hpl hpl' hm' hy'
                      have hmp := mput_any m U4 uc4 t4 j y' w6 M6.out TO4.out (by omega) Y2.out
                      unfold It.val at hmp
                      go_wp2_with fail
                      refine (hmp).mono ?_
                      rintro e w7 ⟨r', t7, rfl, ⟨U7, uc7, hm7, hk7⟩, hrel'⟩
                      have P7 := Lib.hid (P6.out.ofMo M6.out hk7)
                      have M7 := Lib.hid hm7
                      have HREL' := Lib.hid hrel'
                      have B7 := Lib.hid (B6.out.trans (hk7.belowAt B6.out.size (fun y hy => by rw [show y = m from hy]; exact HMG.out)))
                      have hZm : ¬ Only m Z := fun hh => absurd (Ty.one (by rw [show Z = m from hh] at OZ6; exact OZ6.out.ty) M6.out.ob.ty) (by decide)
                      have OZ7 := Lib.hid (OZ6.out.kept hk7 hZm)
                      clear hmp hm7 hk7 hrel' lz cz11 cw0 cw1 cw2 cw3 cw4 cw5 cw6 cw7 cw8 cw9 cw10
                      have lz := OZ7.out.lt
                      have cz11 : w7.cell? ⟨Z, 11, none⟩ = some (.int .i64 q) := by rw [← HQ.out]; exact (OZ7.out.blk).2.1 11
                      by_cases hr3 : r' = 3
                      · have HR3 := Lib.hid hr3
                        subst hr3
                        go_wp2_with fail
                        refine (double_yes b w1.heap.size l4 p4 j q w7 P7.out O4.out (by omega) hqp).mono ?_
                        rintro e w8 ⟨y, r, p8, hyp, rfl, ⟨l8, hp8, hk8, hf8⟩, hrel⟩
                        have hyy : y.plain = y'.plain := hyp.trans HPL.out
                        obtain ⟨hrr, S8⟩ := S4.out.put O4.out TO4.out hyy Y2.out hrel HREL'.out
                        have BO8 : Hid (Bo b w1.heap.size m w (j + 1) w8) := Lib.hid ⟨⟨l8, p8, U7, uc7, t7, hp8, M7.out.ofPo P7.out hk8, S8, hrel.ok O4.out (by have h1 := ok2_plain hyy Y2.out; exact ⟨h1.dn, by have := h1.len; omega⟩), HREL'.out.ok TO4.out Y2.out, HREL'.out.dat D4.out YD.out⟩, B7.out.trans (hk8.belowAt B7.out.size (fun y hy => Nat.le_trans B1.out.size (P7.out.ge hy)))⟩
                        have HRR := Lib.hid hrr
                        clear hp8 hk8 hf8 hrel S8 hrr
                        rw [show decide (r ≠ 3) = false by rw [HRR.out]; rfl]
                        go_wp2_with fail
                        go_meet
                        exact BO8.out
                      · have HR3 := Lib.hid hr3
                        have hb3 : (r' != 3) = true := bne_iff_ne.2 hr3
                        go_wp2_with fail
                        refine (double_yes b w1.heap.size l4 p4 j q w7 P7.out O4.out (by omega) hqp).mono ?_
                        rintro e w8 ⟨y, r, p8, hyp, rfl, ⟨l8, hp8, hk8, hf8⟩, hrel⟩
                        have hyy : y.plain = y'.plain := hyp.trans HPL.out
                        obtain ⟨hrr, S8⟩ := S4.out.put O4.out TO4.out hyy Y2.out hrel HREL'.out
                        have BO8 : Hid (Bo b w1.heap.size m w (j + 1) w8) := Lib.hid ⟨⟨l8, p8, U7, uc7, t7, hp8, M7.out.ofPo P7.out hk8, S8, hrel.ok O4.out (by have h1 := ok2_plain hyy Y2.out; exact ⟨h1.dn, by have := h1.len; omega⟩), HREL'.out.ok TO4.out Y2.out, HREL'.out.dat D4.out YD.out⟩, B7.out.trans (hk8.belowAt B7.out.size (fun y hy => Nat.le_trans B1.out.size (P7.out.ge hy)))⟩
                        have HRR := Lib.hid hrr
                        clear hp8 hk8 hf8 hrel S8 hrr
                        rw [show decide (r ≠ 3) = true by rw [HRR.out]; exact decide_eq_true HR3.out]
                        go_wp2_with fail
                        go_meet
                        exact BO8.out
                  · have hkb4 : (s.k == 4) = false := beq_eq_false_iff_ne.2 hk4
                    clear hk4
                    go_wp2_with fail
                    go_meet
                    exact ⟨⟨l4, p4, U4, uc4, t4, P5.out, M5.out, S4.out, O4.out.mono (Nat.le_succ _), ⟨TO4.out.items, fun i hi => Nat.le_succ_of_le (TO4.out.len i hi), Nat.le_succ_of_le TO4.out.clen⟩, D4.out⟩, B5.out⟩
          case rest =>
          have BO := Lib.hid hcut
          clear hcut
          obtain ⟨⟨l6, p6, U6, uc6, t6, hp6, hm6, hs6, ho6, hto6, hd6⟩, hb6⟩ := BO.out
          rename World => w6
          go_wp2_with fail
          refine (shows_any b w1.heap.size l6 p6 (j + 1) m U6 uc6 t6 (j + 1) w w6 hp6 hm6 hs6 ho6 (by omega) hto6 (by omega) hd6 hb6).mono ?_
          rintro e w7 ⟨rfl, hb7⟩
          have BO7 : Hid (Bo b w1.heap.size m w (j + 1) w7) := Lib.hid ⟨⟨l6, p6, U6, uc6, t6, hp6.below hb7, hm6.below hb7, hs6, ho6, hto6, hd6⟩, hb6.trans (hb7.mono hb6.size)⟩
          clear hp6 hm6 hs6 ho6 hto6 hd6 hb6 hb7
          go_wp2_with fail
          go_roundw
          case rel => exact ⟨j + 1, by omega, by go_num, BO7.out⟩
          case measure => simp [intOf]; omega
        · obtain rfl : j = S.length := by omega
          go_wp2_with fail
          refine (awake_w _).mono ?_
          rintro e w6 ⟨rfl, hb6⟩
          have B6 := Lib.hid (B4.out.trans (hb6.mono B4.out.size))
          go_wp2_with fail
          go_ret
          exact ⟨rfl, B6.out⟩
end Go.Proofs.Ythgkminjhpaakaa
