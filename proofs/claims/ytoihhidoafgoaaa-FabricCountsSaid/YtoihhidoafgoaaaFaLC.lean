/- FabricCounts: each frame that was sent waits, has arrived, was taken, or is lost. -/
import Derived.Test.YtoihhidoafgoaaaFaZ
import Derived.Test.YtoihhidoafgoaaaFrame
namespace Go.Proofs.Ytoihhidoafgoaaa
open Go.RowKit

structure Fc (f B0 : Nat) (n : Int) (N : Nat) (W0 w : World) : Prop where
  ex : ∃ (l : Fl) (s : Fs), Fa f B0 l s w ∧ s.ok N ∧ s.H = 4 ∧ s.S = 2 ∧ s.tot = n
  bel : Below W0.heap.size W0 w
  base : W0.heap.size ≤ B0
section
variable {f B0 : Nat} {n : Int} {N : Nat} {W0 w w' : World}
theorem Fc.below (h : Fc f B0 n N W0 w) (hb : Below w.heap.size w w') : Fc f B0 n N W0 w' := by
  obtain ⟨⟨l, s, h1, h2, h3, h4, h5⟩, h6, h7⟩ := h
  exact ⟨⟨l, s, h1.below hb, h2, h3, h4, h5⟩, h6.trans (hb.mono h6.size), h7⟩
theorem Fc.mono (h : Fc f B0 n N W0 w) {M : Nat} (hM : N ≤ M) : Fc f B0 n M W0 w := by
  obtain ⟨⟨l, s, h1, h2, h3, h4, h5⟩, h6, h7⟩ := h
  exact ⟨⟨l, s, h1, h2.mono hM, h3, h4, h5⟩, h6, h7⟩
theorem Fc.post {l : Fl} {s s' : Fs} {m : Int} {M : Nat} (hf : Fa f B0 l s w) (hp : FaPost f B0 l s s' w w') (h6 : Below W0.heap.size W0 w) (h7 : W0.heap.size ≤ B0) (h2 : s'.ok M) (h3 : s'.H = 4) (h4 : s'.S = 2) (h5 : s'.tot = m) : Fc f B0 m M W0 w' := by
  have hb := hp.bel hf h6 h7
  obtain ⟨l', h1, _, _⟩ := hp
  exact ⟨⟨l', s', h1, h2, h3, h4, h5⟩, hb, h7⟩
theorem lostBy_HS (s : Fs) (r : Int) : (lostBy s r).H = s.H ∧ (lostBy s r).S = s.S := by unfold lostBy; split <;> exact ⟨rfl, rfl⟩
theorem fc_send (h : Fc f B0 n N W0 w) (k : Int) (x : It) (hm : 0 ≤ x.msg) (hdn : x.dn = x.bs.length) (hr : Rd w 1 (.slice x.da x.dn x.dc) x.dn (bcells x.bs)) (hN : N ≤ 1000000) :
    Calls Try.prog 10 #[.pointer (some ⟨f, 0, none⟩), .int .i64 k, x.frv, .int .i64 x.path] w fun e w' => ∃ r g, e = .returned (.tuple #[.int .i64 r, .int .i64 g]) ∧ ((g = 0 ∧ Fc f B0 (n + 1) (N + 2) W0 w') ∨ (g = 1 ∧ Fc f B0 n (N + 2) W0 w')) := by
  have hc := h
  obtain ⟨⟨l, s, h1, h2, h3, h4, h5⟩, h6, h7⟩ := h
  by_cases hok : sendOk s.H k x
  · obtain ⟨a1, a2, a3, a4, a5⟩ := hok
    obtain ⟨q, rfl⟩ : ∃ q : Nat, k = q := ⟨k.toNat, by omega⟩
    have a6 := a3.dst.1
    have a7 : 0 ≤ x.dst := a6
    obtain ⟨d, hd⟩ : ∃ d : Nat, x.dst = d := ⟨x.dst.toNat, by omega⟩
    have hkp : q < nP s.H s.S := by rw [nP_ls]; omega
    have hl := h2.lost
    refine (send_yes h1 (k := q) (d := d) (by omega) (by omega) hd (by omega) a3 hdn hr (h2.p q hkp) hN (by omega)).mono ?_
    rintro e w' ⟨r, p', rfl, hr, hp⟩
    exact ⟨r, 0, rfl, .inl ⟨rfl, Fc.post h1 hp h6 h7 (send_ok h2 hkp (ok_fr a3 hdn) (by omega) hr) ((lostBy_HS _ _).1.trans h3) ((lostBy_HS _ _).2.trans h4) (by rw [send_tot hkp hr, h5])⟩⟩
  · refine (send_no h1 hm hdn hok).mono ?_
    rintro e w' ⟨rfl, hb⟩
    exact ⟨0, 1, rfl, .inr ⟨rfl, (hc.below hb).mono (by omega)⟩⟩
theorem ServeRel.HS {s s' : Fs} {n : Nat} {now : Int} {b : Bool} (hr : ServeRel s n now b s') : s'.H = s.H ∧ s'.S = s.S := by
  cases hr with
  | none => exact ⟨rfl, rfl⟩
  | arr => exact ⟨rfl, rfl⟩
  | move => exact lostBy_HS _ _
  | gone => exact lostBy_HS _ _
theorem fc_serve (h : Fc f B0 n N W0 w) (k now : Int) (hN : N ≤ 1000000) :
    Calls Try.prog 12 #[.pointer (some ⟨f, 0, none⟩), .int .i64 k, .int .i64 now] w fun e w' => ∃ b g, e = .returned (.tuple #[.bool b, .int .i64 g]) ∧ Fc f B0 n (N + 2) W0 w' := by
  have hc := h
  obtain ⟨⟨l, s, h1, h2, h3, h4, h5⟩, h6, h7⟩ := h
  by_cases hk : k < 0 ∨ (nP s.H s.S : Int) ≤ k
  · refine (serve_no h1 hk).mono ?_
    rintro e w' ⟨rfl, rfl⟩
    exact ⟨false, 5, rfl, hc.mono (by omega)⟩
  · obtain ⟨q, rfl⟩ : ∃ q : Nat, k = q := ⟨k.toNat, by omega⟩
    have hkp : q < nP s.H s.S := by omega
    refine (serve_yes h1 hkp h2 hN).mono ?_
    rintro e w' ⟨b, s', rfl, hr, hp⟩
    exact ⟨b, 0, rfl, Fc.post h1 hp h6 h7 (hr.ok h2 hkp) (hr.HS.1.trans h3) (hr.HS.2.trans h4) (by rw [hr.tot hkp, h5])⟩
theorem fc_take (h : Fc f B0 n N W0 w) (k : Int) (hN : N ≤ 1000000) :
    Calls Try.prog 13 #[.pointer (some ⟨f, 0, none⟩), .int .i64 k] w fun e w' => ∃ (x : It) (b : Bool), e = .returned (.tuple #[x.frv, .bool b]) ∧ ((b = true ∧ Fc f B0 (n - 1) (N + 2) W0 w') ∨ (b = false ∧ Fc f B0 n (N + 2) W0 w')) := by
  have hc := h
  obtain ⟨⟨l, s, h1, h2, h3, h4, h5⟩, h6, h7⟩ := h
  by_cases hk : k < 0 ∨ (s.H : Int) ≤ k
  · refine (take_no0 h1 hk).mono ?_
    rintro e w' ⟨rfl, hb⟩
    exact ⟨it0, false, rfl, .inr ⟨rfl, (hc.below hb).mono (by omega)⟩⟩
  · obtain ⟨q, rfl⟩ : ∃ q : Nat, k = q := ⟨k.toNat, by omega⟩
    have hkp : q < s.H := by omega
    cases hA : s.A q with
    | nil =>
      refine (take_no1 h1 hkp hA).mono ?_
      rintro e w' ⟨rfl, hb⟩
      exact ⟨it0, false, rfl, .inr ⟨rfl, (hc.below hb).mono (by omega)⟩⟩
    | cons x r =>
      have hle := h2.a q hkp
      refine (take_yes h1 hkp hA (by omega)).mono ?_
      rintro e w' ⟨rfl, hp⟩
      have ht := takeF_tot hkp hA
      exact ⟨x, true, rfl, .inl ⟨rfl, Fc.post h1 hp h6 h7 ((takeF_ok h2 hkp hA).mono (by omega)) h3 h4 (by omega)⟩⟩
theorem fc_drop (h : Fc f B0 n N W0 w) (k j : Int) (hN : N ≤ 1000000) :
    Calls Try.prog 18 #[.pointer (some ⟨f, 0, none⟩), .int .i64 k, .int .i64 j] w fun e w' => ∃ g, e = .returned (.int .i64 g) ∧ Fc f B0 n (N + 2) W0 w' := by
  have hc := h
  obtain ⟨⟨l, s, h1, h2, h3, h4, h5⟩, h6, h7⟩ := h
  by_cases hk : k < 0 ∨ (nP s.H s.S : Int) ≤ k
  · refine (dropf_no h1 hk).mono ?_
    rintro e w' ⟨rfl, hb⟩
    exact ⟨5, rfl, (hc.below hb).mono (by omega)⟩
  · obtain ⟨q, rfl⟩ : ∃ q : Nat, k = q := ⟨k.toNat, by omega⟩
    have hkp : q < nP s.H s.S := by omega
    refine (dropf_yes h1 hkp h2 hN).mono ?_
    rintro e w' ⟨r, s', rfl, hr, hp⟩
    have hHS : s'.H = s.H ∧ s'.S = s.S := by cases hr <;> exact ⟨rfl, rfl⟩
    exact ⟨r, rfl, Fc.post h1 hp h6 h7 (hr.ok h2 hkp) (hHS.1.trans h3) (hHS.2.trans h4) (by rw [hr.tot hkp, h5])⟩
theorem fc_double (h : Fc f B0 n N W0 w) (k j : Int) (hN : N ≤ 1000000) :
    Calls Try.prog 26 #[.pointer (some ⟨f, 0, none⟩), .int .i64 k, .int .i64 j] w fun e w' => ∃ g, e = .returned (.int .i64 g) ∧ ((g = 0 ∧ Fc f B0 (n + 1) (N + 2) W0 w') ∨ (g = 5 ∧ Fc f B0 n (N + 2) W0 w')) := by
  have hc := h
  obtain ⟨⟨l, s, h1, h2, h3, h4, h5⟩, h6, h7⟩ := h
  by_cases hk : k < 0 ∨ (nP s.H s.S : Int) ≤ k
  · refine (doublef_no h1 hk).mono ?_
    rintro e w' ⟨rfl, hb⟩
    exact ⟨5, rfl, .inr ⟨rfl, (hc.below hb).mono (by omega)⟩⟩
  · obtain ⟨q, rfl⟩ : ∃ q : Nat, k = q := ⟨k.toNat, by omega⟩
    have hkp : q < nP s.H s.S := by omega
    refine (doublef_yes h1 hkp h2 hN).mono ?_
    rintro e w' ⟨r, s', rfl, hr, hp⟩
    have hHS : s'.H = s.H ∧ s'.S = s.S := by
      cases hr with
      | no => exact ⟨rfl, rfl⟩
      | yes => exact lostBy_HS _ _
    rcases hr.tot hkp with ⟨rfl, ht⟩ | ⟨rfl, ht⟩
    · exact ⟨5, rfl, .inr ⟨rfl, Fc.post h1 hp h6 h7 (hr.ok h2 hkp) (hHS.1.trans h3) (hHS.2.trans h4) (by rw [ht, h5])⟩⟩
    · exact ⟨0, rfl, .inl ⟨rfl, Fc.post h1 hp h6 h7 (hr.ok h2 hkp) (hHS.1.trans h3) (hHS.2.trans h4) (by rw [ht, h5])⟩⟩
theorem Fc.tot_le (h : Fc f B0 n N W0 w) : 0 ≤ n := by
  obtain ⟨⟨l, s, h1, h2, h3, h4, h5⟩, h6, h7⟩ := h
  have := h2.lost
  unfold Fs.tot at h5
  omega
end
theorem newFs_tot (H S : Nat) (room credits : Int) (trim : Bool) : (newFs H S room credits trim).tot = 0 := by
  have e1 : (newFs H S room credits trim).waitN = 0 := sumN_zero _ _ fun i _ => rfl
  have e2 : (newFs H S room credits trim).arrN = 0 := sumN_zero _ _ fun i _ => rfl
  show (0 : Int) + (newFs H S room credits trim).waitN + (newFs H S room credits trim).arrN = 0
  rw [e1, e2]
  rfl
set_option maxRecDepth 100000 in
set_option maxHeartbeats 4000000 in
theorem counts_law (room : Int) (S : List Fst) (v : Value) (w : World) (h : Rd w 13 v S.length (S.flatMap Fst.row)) (hs : ∀ s ∈ S, s.ok w) : Calls Try.prog 6 #[.int .i64 room, v] w (TrueBelow w) := by
  obtain ⟨a, ca, rfl, hac, hac2⟩ := h.form
  have HR := Lib.hid h
  have HS := Lib.hid hs
  go_enter Try.func6, Try.ntmps6
  go_wp2_with fail
  refine (small_any S _ w h hs).mono ?_
  rintro e w1 ⟨⟨b0, rfl, hsm⟩, hb1⟩
  have B1 := Lib.hid hb1
  clear h hs hb1
  cases b0 with
  | false =>
    go_wp2_with fail
    refine (awake_f _).mono ?_
    rintro e w6 ⟨rfl, hb6⟩
    have B6 := Lib.hid (B1.out.trans (hb6.mono B1.out.size))
    go_wp2_with fail
    go_ret
    exact ⟨rfl, B6.out⟩
  | true =>
    have hS := hsm rfl
    clear hsm
    by_cases hok : 0 ≤ room ∧ room ≤ 1073741824
    case neg =>
      have hok2 : room < 0 ∨ (0 ≤ room ∧ 1073741824 < room) := by omega
      clear hok
      rcases hok2 with hok | ⟨hok, hok2⟩
      all_goals
        go_wp2_with fail
        refine (awake_f _).mono ?_
        rintro e w6 ⟨rfl, hb6⟩
        have B6 := Lib.hid (B1.out.trans (hb6.mono B1.out.size))
        go_wp2_with fail
        go_ret
        exact ⟨rfl, B6.out⟩
    case pos =>
      obtain ⟨hk1, hk2⟩ := hok
      go_wp2_with fail
      refine (new_fa 4 2 room 2 true _ ⟨by decide, by decide⟩ ⟨hk1, hk2⟩ (by decide)).mono ?_
      rintro e w2 ⟨f, l, rfl, hf2, hb2⟩
      have F2 : Hid (Fc f w1.heap.size 0 0 w w2) := Lib.hid ⟨⟨l, _, hf2, newFs_ok 4 2 room 2 true ⟨hk1, hk2⟩, rfl, rfl, newFs_tot _ _ _ _ _⟩, B1.out.trans (hb2.mono B1.out.size), B1.out.size⟩
      clear hf2 hb2
      go_wp2_with fail
      go_loopw [7, 8, 9, 10, 11, 12, 13, 14, 15, 16] (fun n i _ _ _ _ _ _ _ _ wr => ∃ (j : Nat) (m : Int), j ≤ S.length ∧ i = .int .i64 j ∧ n = .int .i64 m ∧ m ≤ j ∧ Hid (Fc f w1.heap.size m (2 * j) w wr)) (fun _ i _ _ _ _ _ _ _ _ _ => S.length - (intOf i).toNat)
      case atStart => exact ⟨0, 0, by omega, rfl, rfl, by omega, F2⟩
      case round =>
        obtain ⟨j, m, hj, rfl, rfl, hm, FJ⟩ := hrel
        clear F2
        rename World => wi
        have hm0 := FJ.out.tot_le
        by_cases hlt : j < S.length
        · obtain ⟨g, o, hgo, hg, hc⟩ := (HR.out.below FJ.out.bel).row rowFst (by decide) j hlt
          cases hgo
          have hso := HS.out _ (List.getElem_mem hlt)
          generalize S[j] = s at hc hso
          have cq0 : wi.cell? ⟨g, o + j * 13, none⟩ = some (.int .i64 s.k) := hc 0 _ rfl
          have cq1 : wi.cell? ⟨g, o + j * 13 + 1, none⟩ = some (.int .i64 s.a) := hc 1 _ rfl
          have cq2 : wi.cell? ⟨g, o + j * 13 + 2, none⟩ = some (.int .i64 s.x.path) := hc 2 _ rfl
          have cq3 : wi.cell? ⟨g, o + j * 13 + 3, none⟩ = some (.int .i64 s.x.kind) := hc 3 _ rfl
          have cq4 : wi.cell? ⟨g, o + j * 13 + 4, none⟩ = some (.int .i64 s.x.src) := hc 4 _ rfl
          have cq5 : wi.cell? ⟨g, o + j * 13 + 5, none⟩ = some (.int .i64 s.x.dst) := hc 5 _ rfl
          have cq6 : wi.cell? ⟨g, o + j * 13 + 6, none⟩ = some (.int .i64 s.x.prio) := hc 6 _ rfl
          have cq7 : wi.cell? ⟨g, o + j * 13 + 7, none⟩ = some (.int .u64 s.x.msg) := hc 7 _ rfl
          have cq8 : wi.cell? ⟨g, o + j * 13 + 8, none⟩ = some (.int .i64 s.x.off) := hc 8 _ rfl
          have cq9 : wi.cell? ⟨g, o + j * 13 + 9, none⟩ = some (.int .i64 s.x.len) := hc 9 _ rfl
          have cq10 : wi.cell? ⟨g, o + j * 13 + 10, none⟩ = some (.int .i64 s.x.total) := hc 10 _ rfl
          have cq11 : wi.cell? ⟨g, o + j * 13 + 11, none⟩ = some (.int .i64 s.x.num) := hc 11 _ rfl
          have cq12 : wi.cell? ⟨g, o + j * 13 + 12, none⟩ = some (.slice s.x.da s.x.dn s.x.dc) := hc 12 _ rfl
          clear hc
          have HSO := Lib.hid hso
          clear hso
          go_upto_region 11 with fail
          have OZ := Lib.hid (Ob.new wi #[.int .i64 s.k, .int .i64 s.a, .int .i64 s.x.path, .int .i64 s.x.kind, .int .i64 s.x.src, .int .i64 s.x.dst, .int .i64 s.x.prio, .int .u64 s.x.msg, .int .i64 s.x.off, .int .i64 s.x.len, .int .i64 s.x.total, .int .i64 s.x.num, .slice s.x.da s.x.dn s.x.dc] 51)
          have F5 := Lib.hid (FJ.out.below ((Below.refl _ wi).alloc (Nat.le_refl _) (.cells #[.int .i64 s.k, .int .i64 s.a, .int .i64 s.x.path, .int .i64 s.x.kind, .int .i64 s.x.src, .int .i64 s.x.dst, .int .i64 s.x.prio, .int .u64 s.x.msg, .int .i64 s.x.off, .int .i64 s.x.len, .int .i64 s.x.total, .int .i64 s.x.num, .slice s.x.da s.x.dn s.x.dc] 51)))
          obtain ⟨Z, HZ⟩ : ∃ Z, Hid (wi.heap.size = Z) := ⟨_, Lib.hid rfl⟩
          rw [HZ.out] at OZ ⊢
          clear cq0 cq1 cq2 cq3 cq4 cq5 cq6 cq7 cq8 cq9 cq10 cq11 cq12 FJ
          generalize wi.alloc (.cells #[.int .i64 s.k, .int .i64 s.a, .int .i64 s.x.path, .int .i64 s.x.kind, .int .i64 s.x.src, .int .i64 s.x.dst, .int .i64 s.x.prio, .int .u64 s.x.msg, .int .i64 s.x.off, .int .i64 s.x.len, .int .i64 s.x.total, .int .i64 s.x.num, .slice s.x.da s.x.dn s.x.dc] 51) = w5 at *
          have lz := OZ.out.lt
          have cz0 : w5.cell? ⟨Z, 0, none⟩ = some (.int .i64 s.k) := (OZ.out.blk).2.1 0
          go_upto_block 2 with fail
          go_cut [7, 10, 11, 12, 13] from 45 to 138 (fun n _ _ _ _ wx => ∃ m' : Int, n = .int .i64 m' ∧ m' ≤ j + 1 ∧ Hid (Fc f w1.heap.size m' (2 * (j + 1)) w wx))
          case first =>
            have cells := (OZ.out.blk).2.1
            have cz1 : w5.cell? ⟨Z, 1, none⟩ = some (.int .i64 s.a) := cells 1
            have cz2 : w5.cell? ⟨Z, 2, none⟩ = some (.int .i64 s.x.path) := cells 2
            have cz3 : w5.cell? ⟨Z, 3, none⟩ = some (.int .i64 s.x.kind) := cells 3
            have cz4 : w5.cell? ⟨Z, 4, none⟩ = some (.int .i64 s.x.src) := cells 4
            have cz5 : w5.cell? ⟨Z, 5, none⟩ = some (.int .i64 s.x.dst) := cells 5
            have cz6 : w5.cell? ⟨Z, 6, none⟩ = some (.int .i64 s.x.prio) := cells 6
            have cz7 : w5.cell? ⟨Z, 7, none⟩ = some (.int .u64 s.x.msg) := cells 7
            have cz8 : w5.cell? ⟨Z, 8, none⟩ = some (.int .i64 s.x.off) := cells 8
            have cz9 : w5.cell? ⟨Z, 9, none⟩ = some (.int .i64 s.x.len) := cells 9
            have cz10 : w5.cell? ⟨Z, 10, none⟩ = some (.int .i64 s.x.total) := cells 10
            have cz11 : w5.cell? ⟨Z, 11, none⟩ = some (.int .i64 s.x.num) := cells 11
            have cz12 : w5.cell? ⟨Z, 12, none⟩ = some (.slice s.x.da s.x.dn s.x.dc) := cells 12
            clear cells
            by_cases hk1 : s.k = 1
            · have hkb : (s.k == 1) = true := beq_iff_eq.2 hk1
              clear hk1
              have hsd := fc_send F5.out s.a s.x HSO.out.msg HSO.out.dn (HSO.out.rd.below F5.out.bel) (by omega)
              unfold It.frv at hsd
              go_wp2_with fail
              refine (hsd).mono ?_
              rintro e w6 ⟨r, g6, rfl, hg⟩
              rcases hg with ⟨rfl, h6⟩ | ⟨rfl, h6⟩
              · have F6 := Lib.hid h6
                clear h6 hsd
                go_wp2_with fail
                go_meet
                exact ⟨m + 1, by go_num, by omega, Lib.hid (F6.out.mono (by omega))⟩
              · have F6 := Lib.hid h6
                clear h6 hsd
                go_wp2_with fail
                go_meet
                exact ⟨m, rfl, by omega, Lib.hid (F6.out.mono (by omega))⟩
            · have hkb : (s.k == 1) = false := beq_eq_false_iff_ne.2 hk1
              clear hk1
              by_cases hk2 : s.k = 2
              · have hkb2 : (s.k == 2) = true := beq_iff_eq.2 hk2
                clear hk2
                go_wp2_with fail
                refine (fc_serve F5.out s.a s.x.path (by omega)).mono ?_
                rintro e w6 ⟨r, g6, rfl, h6⟩
                have F6 := Lib.hid h6
                clear h6
                go_wp2_with fail
                go_meet
                exact ⟨m, rfl, by omega, Lib.hid (F6.out.mono (by omega))⟩
              · have hkb2 : (s.k == 2) = false := beq_eq_false_iff_ne.2 hk2
                clear hk2
                by_cases hk3 : s.k = 3
                · have hkb3 : (s.k == 3) = true := beq_iff_eq.2 hk3
                  clear hk3
                  go_wp2_with fail
                  refine (fc_take F5.out s.a (by omega)).mono ?_
                  rintro e w6 ⟨x6, b6, rfl, h6⟩
                  have H6 := Lib.hid h6
                  clear h6
                  unfold It.frv
                  go_upto_region 20 with fail
                  rcases H6.out with ⟨rfl, h6⟩ | ⟨rfl, h6⟩
                  · have F6 := Lib.hid (h6.below ((Below.refl _ w6).alloc (Nat.le_refl _) (.cells #[.int .i64 x6.kind, .int .i64 x6.src, .int .i64 x6.dst, .int .i64 x6.prio, .int .u64 x6.msg, .int .i64 x6.off, .int .i64 x6.len, .int .i64 x6.total, .int .i64 x6.num, .slice x6.da x6.dn x6.dc] TFr)))
                    clear h6
                    go_wp2_with fail
                    go_meet
                    exact ⟨m - 1, by go_num, by omega, Lib.hid (F6.out.mono (by omega))⟩
                  · have F6 := Lib.hid (h6.below ((Below.refl _ w6).alloc (Nat.le_refl _) (.cells #[.int .i64 x6.kind, .int .i64 x6.src, .int .i64 x6.dst, .int .i64 x6.prio, .int .u64 x6.msg, .int .i64 x6.off, .int .i64 x6.len, .int .i64 x6.total, .int .i64 x6.num, .slice x6.da x6.dn x6.dc] TFr)))
                    clear h6
                    go_wp2_with fail
                    go_meet
                    exact ⟨m, rfl, by omega, Lib.hid (F6.out.mono (by omega))⟩
                · have hkb3 : (s.k == 3) = false := beq_eq_false_iff_ne.2 hk3
                  clear hk3
                  by_cases hk4 : s.k = 4
                  · have hkb4 : (s.k == 4) = true := beq_iff_eq.2 hk4
                    clear hk4
                    go_wp2_with fail
                    refine (fc_drop F5.out s.a s.x.path (by omega)).mono ?_
                    rintro e w6 ⟨g6, rfl, h6⟩
                    have F6 := Lib.hid h6
                    clear h6
                    go_wp2_with fail
                    go_meet
                    exact ⟨m, rfl, by omega, Lib.hid (F6.out.mono (by omega))⟩
                  · have hkb4 : (s.k == 4) = false := beq_eq_false_iff_ne.2 hk4
                    clear hk4
                    by_cases hk5 : s.k = 5
                    · have hkb5 : (s.k == 5) = true := beq_iff_eq.2 hk5
                      clear hk5
                      go_wp2_with fail
                      refine (fc_double F5.out s.a s.x.path (by omega)).mono ?_
                      rintro e w6 ⟨g6, rfl, hg⟩
                      rcases hg with ⟨rfl, h6⟩ | ⟨rfl, h6⟩
                      · have F6 := Lib.hid h6
                        clear h6
                        go_wp2_with fail
                        go_meet
                        exact ⟨m + 1, by go_num, by omega, Lib.hid (F6.out.mono (by omega))⟩
                      · have F6 := Lib.hid h6
                        clear h6
                        go_wp2_with fail
                        go_meet
                        exact ⟨m, rfl, by omega, Lib.hid (F6.out.mono (by omega))⟩
                    · have hkb5 : (s.k == 5) = false := beq_eq_false_iff_ne.2 hk5
                      clear hk5
                      go_wp2_with fail
                      go_meet
                      exact ⟨m, rfl, by omega, Lib.hid (F5.out.mono (by omega))⟩
          case rest =>
            obtain ⟨m', rfl, hm', FK⟩ := hcut
            clear F5 OZ lz cz0
            rename World => w6
            obtain ⟨⟨l, s, hf, ho, hsH, hsS, htot⟩, hbel, hbase⟩ := FK.out
            have FA := Lib.hid hf
            have SO := Lib.hid ho
            have HT := Lib.hid htot
            have HSH := Lib.hid hsH
            have HLE := Lib.hid (ho.lens (show 2 * (j + 1) ≤ 1000000 by omega))
            have hlo := ho.lost
            obtain ⟨np1, np2⟩ := hf.hs.np
            have HW := Lib.hid (fun k (hk : k ≤ nP s.H s.S) => sumN_le (fun i => (s.P i).waits.length) 9000000 k fun i hi => (HLE.out.p i (by omega)).w)
            have HA := Lib.hid (fun k (hk : k ≤ s.H) => sumN_le (fun i => (s.A i).length) 1000000 k fun i hi => HLE.out.a i (by omega))
            clear hf ho htot hbel hsH hsS hbase
            go_wp2_with fail
            refine (lost_fa FA.out).mono ?_
            rintro e w7 ⟨rfl, rfl⟩
            generalize hlost : s.lost = Lo at *
            have HLO := Lib.hid hlost
            clear hlost
            go_wp2_with fail
            go_loopw [14, 15] (fun n i wr => ∃ q : Nat, q ≤ nP s.H s.S ∧ i = .int .i64 q ∧ n = .int .i64 (Lo + (sumN (fun i => (s.P i).waits.length) q : Nat)) ∧ ∃ m, wr = w6.drewN m) (fun _ i _ => nP s.H s.S - (intOf i).toNat)
            case atStart => exact ⟨0, by omega, rfl, by simp [sumN], 0, rfl⟩
            case round =>
              obtain ⟨q, hq, rfl, rfl, mm, rfl⟩ := hrel
              have hb := HW.out q hq
              have F1 := Lib.hid (FA.out.dn mm)
              by_cases hltq : q < nP s.H s.S
              · have HS' := Lib.hid (show sumN (fun i => (s.P i).waits.length) (q + 1) = sumN (fun i => (s.P i).waits.length) q + (s.P q).waits.length from rfl)
                have hwj := (HLE.out.p q hltq).w
                generalize sumN (fun i => (s.P i).waits.length) q = u at *
                go_wp2_with fail
                refine (ports_fa F1.out).mono ?_
                rintro e w7 ⟨rfl, rfl⟩
                go_wp2_with fail
                refine (waiting_yes F1.out HLE.out hltq).mono ?_
                rintro e w7 ⟨rfl, m2, rfl⟩
                go_wp2_with fail
                go_roundw
                case rel => exact ⟨q + 1, by omega, by go_num, by rw [HS'.out]; go_num, mm + m2, rfl⟩
                case measure => simp [intOf]; omega
              · obtain rfl : q = nP s.H s.S := by omega
                generalize hu : sumN (fun i => (s.P i).waits.length) (nP s.H s.S) = u at *
                have HU := Lib.hid hu
                clear hu
                have FK7 : Hid (Fc f w1.heap.size m' (2 * (j + 1)) w (w6.drewN mm)) := Lib.hid (FK.out.below (below_dn (Below.refl _ _)))
                generalize w6.drewN mm = w7 at *
                go_wp2_with fail
                refine (ports_fa F1.out).mono ?_
                rintro e w8 ⟨rfl, rfl⟩
                go_wp2_with fail
                go_loopw [14, 16] (fun n i wr => ∃ q : Nat, q ≤ 4 ∧ i = .int .i64 q ∧ n = .int .i64 (Lo + (u : Nat) + (sumN (fun i => (s.A i).length) q : Nat)) ∧ Below w7.heap.size w7 wr) (fun _ i _ => 4 - (intOf i).toNat)
                case atStart => exact ⟨0, by omega, rfl, by simp [sumN], Below.refl _ _⟩
                case round =>
                  obtain ⟨q2, hq2, rfl, rfl, hbq⟩ := hrel
                  have BQ := Lib.hid hbq
                  have F8 := Lib.hid (F1.out.below hbq)
                  have hsH4 := HSH.out
                  have hb2 := HA.out q2 (by omega)
                  clear hbq
                  rename World => w9
                  by_cases hlt2 : q2 < 4
                  · have HS2 := Lib.hid (show sumN (fun i => (s.A i).length) (q2 + 1) = sumN (fun i => (s.A i).length) q2 + (s.A q2).length from rfl)
                    have hwj2 := HLE.out.a q2 (by omega)
                    have hq2H : q2 < s.H := by omega
                    clear hsH4
                    generalize sumN (fun i => (s.A i).length) q2 = u2 at *
                    go_wp2_with fail
                    refine (arrived_yes F8.out hq2H SO.out (by omega)).mono ?_
                    rintro e w10 ⟨v10, rfl, ⟨Y, hY, hov, _⟩, hb10⟩
                    obtain ⟨av, cv, rfl, _, _⟩ := (Rd.of_own hov).form
                    have HYL := Lib.hid hY.len
                    rw [HYL.out]
                    have B10 := Lib.hid (BQ.out.trans (hb10.mono BQ.out.size))
                    clear hY hov hb10
                    go_wp2_with fail
                    go_roundw
                    case rel => exact ⟨q2 + 1, by omega, by go_num, by rw [HS2.out]; go_num, B10.out⟩
                    case measure => simp [intOf]; omega
                  · obtain rfl : q2 = 4 := by omega
                    have hsum : Lo + (u : Nat) + (sumN (fun i => (s.A i).length) 4 : Nat) = m' := by
                      have h1 := HT.out
                      unfold Fs.tot Fs.waitN Fs.arrN at h1
                      rw [HLO.out, HU.out, HSH.out] at h1
                      exact h1
                    rw [hsum]
                    have F9 := Lib.hid (FK7.out.below BQ.out)
                    clear hsum hb2 hsH4
                    go_wp2_with fail
                    go_roundw
                    case rel => exact ⟨j + 1, m', by omega, by go_num, rfl, by omega, F9⟩
                    case measure => simp [intOf]; omega
        · obtain rfl : j = S.length := by omega
          go_wp2_with fail
          have hsd := send_ni (w := wi) it0 0
          unfold It.frv it0 at hsd
          refine hsd.mono ?_
          rintro e w6 ⟨rfl, hb6⟩
          have F6 := Lib.hid (FJ.out.below hb6)
          clear hsd hb6
          go_wp2_with fail
          refine (serve_ni 0 0).mono ?_
          rintro e w7 ⟨rfl, rfl⟩
          go_wp2_with fail
          refine (empty_ni).mono ?_
          rintro e w7 ⟨rfl, rfl⟩
          go_wp2_with fail
          refine (ports_ni).mono ?_
          rintro e w7 ⟨rfl, rfl⟩
          go_wp2_with fail
          refine (dropf_ni 0 0).mono ?_
          rintro e w7 ⟨rfl, hb7⟩
          have F7 := Lib.hid (F6.out.below hb7)
          clear hb7
          go_wp2_with fail
          refine (lost_ni).mono ?_
          rintro e w8 ⟨rfl, rfl⟩
          go_wp2_with fail
          refine (awake_f _).mono ?_
          rintro e w8 ⟨rfl, hb8⟩
          have F8 := Lib.hid (F7.out.below hb8)
          clear hb8
          go_wp2_with fail
          go_ret
          exact ⟨rfl, F8.out.bel⟩
end Go.Proofs.Ytoihhidoafgoaaa
