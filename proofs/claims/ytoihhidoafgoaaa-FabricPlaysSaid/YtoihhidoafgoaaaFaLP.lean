/- FabricPlays: whatever frames are sent, served, taken, lost and doubled: each waits, arrives, or is lost where the document says. -/
import Derived.Test.YtoihhidoafgoaaaFaBK
import Derived.Test.YtoihhidoafgoaaaFaZ
import Derived.Test.YtoihhidoafgoaaaFrame
namespace Go.Proofs.Ytoihhidoafgoaaa
open Go.RowKit

theorem Bs.below {f B0 m N : Nat} {W0 w w' : World} (h : Bs f B0 m N W0 w) (hb : Below w.heap.size w w') : Bs f B0 m N W0 w' := by
  obtain ⟨l, s, ml, ms, h1, h2⟩ := h
  exact ⟨l, s, ml, ms, h1.below hb, h2⟩
theorem Bs.bel {f B0 m N : Nat} {W0 w : World} (h : Bs f B0 m N W0 w) : Below W0.heap.size W0 w := by
  obtain ⟨l, s, ml, ms, h1, h2⟩ := h
  exact h1.bel
theorem Bs.mono {f B0 m N M : Nat} {W0 w : World} (h : Bs f B0 m N W0 w) (hM : N ≤ M) : Bs f B0 m M W0 w := by
  obtain ⟨l, s, ml, ms, h1, h2⟩ := h
  exact ⟨l, s, ml, ms, h1, h2.mono hM⟩
theorem step_no {f B0 m : Nat} {l : Fl} {s : Fs} {ml : Ml} {ms : Ms} {W0 w : World} (h : Fb f B0 m l s ml ms W0 w) {Z : Nat} (hZ : Ty w Z 51) : ¬ (FM f l s Z ∨ MM m ml ms Z) := fun hh => by
  rcases hh with hh | hh
  · obtain ⟨T, h1, h2⟩ := h.fa.tys hh
    have := h1.one hZ
    subst this
    unfold FTy at h2
    revert h2
    decide
  · obtain ⟨T, h1, h2, _⟩ := h.mf.mty hh
    have := h1.one hZ
    subst this
    rcases h2 with h2 | h2
    · unfold MTy at h2
      revert h2
      decide
    · rw [h2] at hZ
      exact absurd (hZ.one h.mf.inb.ty) (by decide)
set_option maxRecDepth 100000 in
set_option maxHeartbeats 4000000 in
theorem plays_law (hosts spines room credits : Int) (trim : Bool) (S : List Fst) (v : Value) (w : World) (h : Rd w 13 v S.length (S.flatMap Fst.row)) (hs : ∀ s ∈ S, s.ok w) : Calls Try.prog 5 #[.int .i64 hosts, .int .i64 spines, .int .i64 room, .int .i64 credits, .bool trim, v] w (TrueBelow w) := by
  obtain ⟨a, ca, rfl, hac, hac2⟩ := h.form
  have HR := Lib.hid h
  have HS := Lib.hid hs
  go_enter Try.func5, Try.ntmps5
  go_wp2_with fail
  refine (small_any S _ w h hs).mono ?_
  rintro e w1 ⟨⟨b0, rfl, hsm⟩, hb1⟩
  have B1 := Lib.hid hb1
  clear h hs hb1
  cases b0 with
  | false =>
    go_wp2_with fail
    refine (awake_f _).mono ?_
    rintro e w6 ⟨rfl, hb6⟩
    have B6 := Lib.hid (B1.out.trans (hb6.mono B1.out.size))
    go_wp2_with fail
    go_ret
    exact ⟨rfl, B6.out⟩
  | true =>
    have hS := hsm rfl
    clear hsm
    by_cases hok : (2 ≤ hosts ∧ hosts ≤ 8) ∧ 1 ≤ spines ∧ spines ≤ 4
    case neg =>
      have HN := Lib.hid hok
      clear hok
      go_wp2_with fail
      refine (newf_no1 hosts spines room credits trim _ HN.out).mono ?_
      rintro e w2 ⟨rfl, rfl⟩
      go_wp2_with fail
      refine (mf_new_no1 hosts spines room credits trim _ HN.out).mono ?_
      rintro e w3 ⟨rfl, rfl⟩
      go_wp2_with fail
      refine (awake_f _).mono ?_
      rintro e w6 ⟨rfl, hb6⟩
      have B6 := Lib.hid (B1.out.trans (hb6.mono B1.out.size))
      go_wp2_with fail
      go_ret
      exact ⟨rfl, B6.out⟩
    case pos =>
      obtain ⟨H, hH⟩ : ∃ H : Nat, (H : Int) = hosts := ⟨hosts.toNat, by omega⟩
      obtain ⟨Q, hQ⟩ : ∃ Q : Nat, (Q : Int) = spines := ⟨spines.toNat, by omega⟩
      have HHS : Hid (Hs H Q) := Lib.hid ⟨by omega, by omega⟩
      subst hH
      subst hQ
      clear hok
      by_cases hok : (0 ≤ room ∧ room ≤ 1073741824) ∧ 0 ≤ credits ∧ credits ≤ 1073741824
      case neg =>
        have HN := Lib.hid hok
        clear hok
        go_wp2_with fail
        refine (newf_no2 H Q room credits trim _ HHS.out HN.out).mono ?_
        rintro e w2 ⟨rfl, hb2⟩
        have B2 := Lib.hid (B1.out.trans (hb2.mono B1.out.size))
        clear hb2
        go_wp2_with fail
        refine (mf_new_no2 H Q room credits trim _ HHS.out HN.out).mono ?_
        rintro e w3 ⟨rfl, hb3⟩
        have B3 := Lib.hid (B2.out.trans (hb3.mono B2.out.size))
        clear hb3
        go_wp2_with fail
        refine (awake_f _).mono ?_
        rintro e w6 ⟨rfl, hb6⟩
        have B6 := Lib.hid (B3.out.trans (hb6.mono B3.out.size))
        go_wp2_with fail
        go_ret
        exact ⟨rfl, B6.out⟩
      case pos =>
        obtain ⟨hk1, hk2⟩ := hok
        go_wp2_with fail
        refine (new_fa H Q room credits trim _ HHS.out hk1 hk2).mono ?_
        rintro e w2 ⟨f, l, rfl, hf2, hb2⟩
        have F2 := Lib.hid hf2
        have B2 := Lib.hid (B1.out.trans (hb2.mono B1.out.size))
        clear hf2 hb2
        go_wp2_with fail
        refine (mf_new H Q room credits trim _ HHS.out hk1 hk2).mono ?_
        rintro e w3 ⟨m, ml, rfl, hm3, hb3, hr3, hge3⟩
        have F3 : Hid (Bs f w1.heap.size m 0 w w3) := Lib.hid ⟨l, _, ml, _, ⟨F2.out.below hb3, hm3, fun x hx hr => by
          have h1 := F2.out.lt hx
          have h2 := hr3 x hr
          omega, B2.out.trans (hb3.mono B2.out.size), B1.out.size, Nat.le_trans B2.out.size hge3, fun x hx => Nat.le_trans B2.out.size (hr3 x hx)⟩, Fsim.new w HHS.out trim hk1⟩
        clear F2 hm3 hb3 hr3 hge3
        go_wp2_with fail
        go_loopw [17, 18, 19, 20, 21, 22, 23, 24, 25, 26, 27, 28, 29, 30] (fun i _ _ _ _ _ _ _ _ _ _ _ _ _ wr => ∃ j : Nat, j ≤ S.length ∧ i = .int .i64 j ∧ Hid (Bs f w1.heap.size m (2 * j) w wr)) (fun i _ _ _ _ _ _ _ _ _ _ _ _ _ _ => S.length - (intOf i).toNat)
        case atStart => exact ⟨0, by omega, rfl, F3⟩
        case round =>
          obtain ⟨j, hj, rfl, FJ⟩ := hrel
          clear F3
          rename World => wi
          by_cases hlt : j < S.length
          · obtain ⟨g, o, hgo, hg, hc⟩ := (HR.out.below FJ.out.bel).row rowFst (by decide) j hlt
            cases hgo
            have hso := HS.out _ (List.getElem_mem hlt)
            generalize S[j] = s at hc hso
            have cq0 : wi.cell? ⟨g, o + j * 13, none⟩ = some (.int .i64 s.k) := hc 0 _ rfl
            have cq1 : wi.cell? ⟨g, o + j * 13 + 1, none⟩ = some (.int .i64 s.a) := hc 1 _ rfl
            have cq2 : wi.cell? ⟨g, o + j * 13 + 2, none⟩ = some (.int .i64 s.x.path) := hc 2 _ rfl
            have cq3 : wi.cell? ⟨g, o + j * 13 + 3, none⟩ = some (.int .i64 s.x.kind) := hc 3 _ rfl
            have cq4 : wi.cell? ⟨g, o + j * 13 + 4, none⟩ = some (.int .i64 s.x.src) := hc 4 _ rfl
            have cq5 : wi.cell? ⟨g, o + j * 13 + 5, none⟩ = some (.int .i64 s.x.dst) := hc 5 _ rfl
            have cq6 : wi.cell? ⟨g, o + j * 13 + 6, none⟩ = some (.int .i64 s.x.prio) := hc 6 _ rfl
            have cq7 : wi.cell? ⟨g, o + j * 13 + 7, none⟩ = some (.int .u64 s.x.msg) := hc 7 _ rfl
            have cq8 : wi.cell? ⟨g, o + j * 13 + 8, none⟩ = some (.int .i64 s.x.off) := hc 8 _ rfl
            have cq9 : wi.cell? ⟨g, o + j * 13 + 9, none⟩ = some (.int .i64 s.x.len) := hc 9 _ rfl
            have cq10 : wi.cell? ⟨g, o + j * 13 + 10, none⟩ = some (.int .i64 s.x.total) := hc 10 _ rfl
            have cq11 : wi.cell? ⟨g, o + j * 13 + 11, none⟩ = some (.int .i64 s.x.num) := hc 11 _ rfl
            have cq12 : wi.cell? ⟨g, o + j * 13 + 12, none⟩ = some (.slice s.x.da s.x.dn s.x.dc) := hc 12 _ rfl
            clear hc
            have HSO := Lib.hid hso
            clear hso
            go_upto_region 13 with fail
            have OZ := Lib.hid (Ob.new wi #[.int .i64 s.k, .int .i64 s.a, .int .i64 s.x.path, .int .i64 s.x.kind, .int .i64 s.x.src, .int .i64 s.x.dst, .int .i64 s.x.prio, .int .u64 s.x.msg, .int .i64 s.x.off, .int .i64 s.x.len, .int .i64 s.x.total, .int .i64 s.x.num, .slice s.x.da s.x.dn s.x.dc] 51)
            have F5 := Lib.hid (FJ.out.below ((Below.refl _ wi).alloc (Nat.le_refl _) (.cells #[.int .i64 s.k, .int .i64 s.a, .int .i64 s.x.path, .int .i64 s.x.kind, .int .i64 s.x.src, .int .i64 s.x.dst, .int .i64 s.x.prio, .int .u64 s.x.msg, .int .i64 s.x.off, .int .i64 s.x.len, .int .i64 s.x.total, .int .i64 s.x.num, .slice s.x.da s.x.dn s.x.dc] 51)))
            obtain ⟨Z, HZ⟩ : ∃ Z, Hid (wi.heap.size = Z) := ⟨_, Lib.hid rfl⟩
            rw [HZ.out] at OZ ⊢
            clear cq0 cq1 cq2 cq3 cq4 cq5 cq6 cq7 cq8 cq9 cq10 cq11 cq12 FJ
            generalize wi.alloc (.cells #[.int .i64 s.k, .int .i64 s.a, .int .i64 s.x.path, .int .i64 s.x.kind, .int .i64 s.x.src, .int .i64 s.x.dst, .int .i64 s.x.prio, .int .u64 s.x.msg, .int .i64 s.x.off, .int .i64 s.x.len, .int .i64 s.x.total, .int .i64 s.x.num, .slice s.x.da s.x.dn s.x.dc] 51) = w5 at *
            have lz := OZ.out.lt
            have cz0 : w5.cell? ⟨Z, 0, none⟩ = some (.int .i64 s.k) := (OZ.out.blk).2.1 0
            go_upto_block 2 with fail
            go_cut [19, 20, 21, 22, 23, 24, 25, 26, 27, 28, 29, 30] from 78 to 192 (fun _ _ _ _ _ _ _ _ _ _ _ _ wx => Hid (Bs f w1.heap.size m (2 * (j + 1)) w wx))
            case first =>
              obtain ⟨l5, s5, ml5, ms5, h5, hs5⟩ := F5.out
              have G5 := Lib.hid h5
              have S5 := Lib.hid hs5
              have HZM := Lib.hid (step_no h5 OZ.out.ty)
              clear h5 hs5 F5
              have cells := (OZ.out.blk).2.1
              have cz1 : w5.cell? ⟨Z, 1, none⟩ = some (.int .i64 s.a) := cells 1
              have cz2 : w5.cell? ⟨Z, 2, none⟩ = some (.int .i64 s.x.path) := cells 2
              have cz3 : w5.cell? ⟨Z, 3, none⟩ = some (.int .i64 s.x.kind) := cells 3
              have cz4 : w5.cell? ⟨Z, 4, none⟩ = some (.int .i64 s.x.src) := cells 4
              have cz5 : w5.cell? ⟨Z, 5, none⟩ = some (.int .i64 s.x.dst) := cells 5
              have cz6 : w5.cell? ⟨Z, 6, none⟩ = some (.int .i64 s.x.prio) := cells 6
              have cz7 : w5.cell? ⟨Z, 7, none⟩ = some (.int .u64 s.x.msg) := cells 7
              have cz8 : w5.cell? ⟨Z, 8, none⟩ = some (.int .i64 s.x.off) := cells 8
              have cz9 : w5.cell? ⟨Z, 9, none⟩ = some (.int .i64 s.x.len) := cells 9
              have cz10 : w5.cell? ⟨Z, 10, none⟩ = some (.int .i64 s.x.total) := cells 10
              have cz11 : w5.cell? ⟨Z, 11, none⟩ = some (.int .i64 s.x.num) := cells 11
              have cz12 : w5.cell? ⟨Z, 12, none⟩ = some (.slice s.x.da s.x.dn s.x.dc) := cells 12
              clear cells
              have hN : 2 * j ≤ 90000 := by omega
              by_cases hk1 : s.k = 1
              · have hkb : (s.k == 1) = true := beq_iff_eq.2 hk1
                clear hk1
                have hsd := fb_send G5.out S5.out hN s.a s.x HSO.out.msg ⟨HSO.out.dn, HSO.out.rd⟩
                unfold It.frv at hsd
                go_wp2_with fail
                refine (hsd).mono ?_
                rintro e w6 ⟨r, g6, rfl, hk6, hcall⟩
                have HC := Lib.hid hcall
                have OZ6 := Lib.hid (OZ.out.kept hk6 (fun hh => HZM.out (.inl hh)))
                clear hsd hk6 hcall lz cz0 cz1 cz2 cz3 cz4 cz5 cz6 cz7 cz8 cz9 cz10 cz11 cz12
                have lz := OZ6.out.lt
                have cells := (OZ6.out.blk).2.1
                have cz1 : w6.cell? ⟨Z, 1, none⟩ = some (.int .i64 s.a) := cells 1
                have cz2 : w6.cell? ⟨Z, 2, none⟩ = some (.int .i64 s.x.path) := cells 2
                have cz3 : w6.cell? ⟨Z, 3, none⟩ = some (.int .i64 s.x.kind) := cells 3
                have cz4 : w6.cell? ⟨Z, 4, none⟩ = some (.int .i64 s.x.src) := cells 4
                have cz5 : w6.cell? ⟨Z, 5, none⟩ = some (.int .i64 s.x.dst) := cells 5
                have cz6 : w6.cell? ⟨Z, 6, none⟩ = some (.int .i64 s.x.prio) := cells 6
                have cz7 : w6.cell? ⟨Z, 7, none⟩ = some (.int .u64 s.x.msg) := cells 7
                have cz8 : w6.cell? ⟨Z, 8, none⟩ = some (.int .i64 s.x.off) := cells 8
                have cz9 : w6.cell? ⟨Z, 9, none⟩ = some (.int .i64 s.x.len) := cells 9
                have cz10 : w6.cell? ⟨Z, 10, none⟩ = some (.int .i64 s.x.total) := cells 10
                have cz11 : w6.cell? ⟨Z, 11, none⟩ = some (.int .i64 s.x.num) := cells 11
                have cz12 : w6.cell? ⟨Z, 12, none⟩ = some (.slice s.x.da s.x.dn s.x.dc) := cells 12
                clear cells
                have hmd := HC.out w6 (Below.refl _ _)
                go_wp2_with fail
                refine (hmd).mono ?_
                rintro e w7 ⟨rfl, hk7, hb7⟩
                have F7 := Lib.hid hb7
                clear hmd hk7 hb7 lz cz1 cz2 cz3 cz4 cz5 cz6 cz7 cz8 cz9 cz10 cz11 cz12
                go_wp2_with fail
                go_meet
                exact Lib.hid (F7.out.mono (by omega))
              · have hkb1 : (s.k == 1) = false := beq_eq_false_iff_ne.2 hk1
                clear hk1
                by_cases hk2 : s.k = 2
                · have hkb2 : (s.k == 2) = true := beq_iff_eq.2 hk2
                  clear hk2
                  go_wp2_with fail
                  refine (fb_serve G5.out S5.out hN s.a s.x.path).mono ?_
                  rintro e w6 ⟨r, g6, rfl, hk6, hcall⟩
                  have HC := Lib.hid hcall
                  have OZ6 := Lib.hid (OZ.out.kept hk6 (fun hh => HZM.out (.inl hh)))
                  clear hk6 hcall lz cz0 cz1 cz2 cz3 cz4 cz5 cz6 cz7 cz8 cz9 cz10 cz11 cz12
                  have lz := OZ6.out.lt
                  have cells := (OZ6.out.blk).2.1
                  have cz1 : w6.cell? ⟨Z, 1, none⟩ = some (.int .i64 s.a) := cells 1
                  have cz2 : w6.cell? ⟨Z, 2, none⟩ = some (.int .i64 s.x.path) := cells 2
                  clear cells
                  have hmd := HC.out w6 (Below.refl _ _)
                  go_wp2_with fail
                  refine (hmd).mono ?_
                  rintro e w7 ⟨rfl, hk7, hb7⟩
                  have F7 := Lib.hid hb7
                  clear hmd hk7 hb7 lz cz1 cz2
                  go_wp2_with fail
                  go_meet
                  exact Lib.hid (F7.out.mono (by omega))
                · have hkb2 : (s.k == 2) = false := beq_eq_false_iff_ne.2 hk2
                  clear hk2
                  by_cases hk3 : s.k = 3
                  · have hkb3 : (s.k == 3) = true := beq_iff_eq.2 hk3
                    clear hk3
                    go_wp2_with fail
                    refine (fb_take G5.out S5.out hN s.a).mono ?_
                    rintro e w6 ⟨x6, b6, rfl, hk6, hcall⟩
                    have HC := Lib.hid hcall
                    have OZ6 := Lib.hid (OZ.out.kept hk6 (fun hh => HZM.out (.inl hh)))
                    have HK6 := Lib.hid hk6
                    clear hk6 hcall lz cz0 cz1 cz2 cz3 cz4 cz5 cz6 cz7 cz8 cz9 cz10 cz11 cz12
                    have lz := OZ6.out.lt
                    have cz1 : w6.cell? ⟨Z, 1, none⟩ = some (.int .i64 s.a) := (OZ6.out.blk).2.1 1
                    unfold It.frv
                    go_upto_region 26 with fail
                    have OX := Lib.hid (Ob.new w6 #[.int .i64 x6.kind, .int .i64 x6.src, .int .i64 x6.dst, .int .i64 x6.prio, .int .u64 x6.msg, .int .i64 x6.off, .int .i64 x6.len, .int .i64 x6.total, .int .i64 x6.num, .slice x6.da x6.dn x6.dc] TFr)
                    have OZ7 := Lib.hid (OZ6.out.alloc (.cells #[.int .i64 x6.kind, .int .i64 x6.src, .int .i64 x6.dst, .int .i64 x6.prio, .int .u64 x6.msg, .int .i64 x6.off, .int .i64 x6.len, .int .i64 x6.total, .int .i64 x6.num, .slice x6.da x6.dn x6.dc] TFr))
                    have KA := Lib.hid ((Below.refl w6.heap.size w6).alloc (Nat.le_refl _) (.cells #[.int .i64 x6.kind, .int .i64 x6.src, .int .i64 x6.dst, .int .i64 x6.prio, .int .u64 x6.msg, .int .i64 x6.off, .int .i64 x6.len, .int .i64 x6.total, .int .i64 x6.num, .slice x6.da x6.dn x6.dc] TFr))
                    have hXM : ¬ MM m ml5 ms5 w6.heap.size := fun hh => by
                      obtain ⟨T, ⟨cs, h1⟩, _⟩ := G5.out.mf.mty hh
                      have h2 := heap_lt h1
                      have h3 := HK6.out.size
                      omega
                    have HXM := Lib.hid hXM
                    clear hXM lz cz1
                    have lz := OZ7.out.lt
                    have cz1 : (w6.alloc (.cells #[.int .i64 x6.kind, .int .i64 x6.src, .int .i64 x6.dst, .int .i64 x6.prio, .int .u64 x6.msg, .int .i64 x6.off, .int .i64 x6.len, .int .i64 x6.total, .int .i64 x6.num, .slice x6.da x6.dn x6.dc] TFr)).cell? ⟨Z, 1, none⟩ = some (.int .i64 s.a) := (OZ7.out.blk).2.1 1
                    have hmd := HC.out (w6.alloc (.cells #[.int .i64 x6.kind, .int .i64 x6.src, .int .i64 x6.dst, .int .i64 x6.prio, .int .u64 x6.msg, .int .i64 x6.off, .int .i64 x6.len, .int .i64 x6.total, .int .i64 x6.num, .slice x6.da x6.dn x6.dc] TFr)) KA.out
                    obtain ⟨X, HX⟩ : ∃ X, Hid (w6.heap.size = X) := ⟨_, Lib.hid rfl⟩
                    rw [HX.out] at OX HXM ⊢
                    generalize w6.alloc (.cells #[.int .i64 x6.kind, .int .i64 x6.src, .int .i64 x6.dst, .int .i64 x6.prio, .int .u64 x6.msg, .int .i64 x6.off, .int .i64 x6.len, .int .i64 x6.total, .int .i64 x6.num, .slice x6.da x6.dn x6.dc] TFr) = w7 at *
                    go_wp2_with fail
                    refine (hmd).mono ?_
                    rintro e w8 ⟨x8, rfl, hk8, hb8, hal⟩
                    have F8 := Lib.hid hb8
                    have AL := Lib.hid hal
                    have OX8 := Lib.hid (OX.out.kept hk8 HXM.out)
                    clear hmd hk8 hb8 hal lz cz1
                    unfold It.frv
                    go_upto_region 27 with fail
                    have OX9 := Lib.hid (OX8.out.alloc (.cells #[.int .i64 x8.kind, .int .i64 x8.src, .int .i64 x8.dst, .int .i64 x8.prio, .int .u64 x8.msg, .int .i64 x8.off, .int .i64 x8.len, .int .i64 x8.total, .int .i64 x8.num, .slice x8.da x8.dn x8.dc] TFr))
                    have OY9 := Lib.hid (Ob.new w8 #[.int .i64 x8.kind, .int .i64 x8.src, .int .i64 x8.dst, .int .i64 x8.prio, .int .u64 x8.msg, .int .i64 x8.off, .int .i64 x8.len, .int .i64 x8.total, .int .i64 x8.num, .slice x8.da x8.dn x8.dc] TFr)
                    have KB := Lib.hid ((Below.refl w8.heap.size w8).alloc (Nat.le_refl _) (.cells #[.int .i64 x8.kind, .int .i64 x8.src, .int .i64 x8.dst, .int .i64 x8.prio, .int .u64 x8.msg, .int .i64 x8.off, .int .i64 x8.len, .int .i64 x8.total, .int .i64 x8.num, .slice x8.da x8.dn x8.dc] TFr))
                    have F9 := Lib.hid (F8.out.below KB.out)
                    have hal := AL.out (w8.alloc (.cells #[.int .i64 x8.kind, .int .i64 x8.src, .int .i64 x8.dst, .int .i64 x8.prio, .int .u64 x8.msg, .int .i64 x8.off, .int .i64 x8.len, .int .i64 x8.total, .int .i64 x8.num, .slice x8.da x8.dn x8.dc] TFr)) KB.out
                    obtain ⟨Y, HY⟩ : ∃ Y, Hid (w8.heap.size = Y) := ⟨_, Lib.hid rfl⟩
                    rw [HY.out] at OY9 ⊢
                    generalize w8.alloc (.cells #[.int .i64 x8.kind, .int .i64 x8.src, .int .i64 x8.dst, .int .i64 x8.prio, .int .u64 x8.msg, .int .i64 x8.off, .int .i64 x8.len, .int .i64 x8.total, .int .i64 x8.num, .slice x8.da x8.dn x8.dc] TFr) = w9 at *
                    obtain ⟨lx, cx, fx⟩ := OX9.out.blk
                    have cx0 : w9.cell? ⟨X, 0, none⟩ = some (.int .i64 x6.kind) := cx 0
                    have cx1 : w9.cell? ⟨X, 1, none⟩ = some (.int .i64 x6.src) := cx 1
                    have cx2 : w9.cell? ⟨X, 2, none⟩ = some (.int .i64 x6.dst) := cx 2
                    have cx3 : w9.cell? ⟨X, 3, none⟩ = some (.int .i64 x6.prio) := cx 3
                    have cx4 : w9.cell? ⟨X, 4, none⟩ = some (.int .u64 x6.msg) := cx 4
                    have cx5 : w9.cell? ⟨X, 5, none⟩ = some (.int .i64 x6.off) := cx 5
                    have cx6 : w9.cell? ⟨X, 6, none⟩ = some (.int .i64 x6.len) := cx 6
                    have cx7 : w9.cell? ⟨X, 7, none⟩ = some (.int .i64 x6.total) := cx 7
                    have cx8 : w9.cell? ⟨X, 8, none⟩ = some (.int .i64 x6.num) := cx 8
                    have cx9 : w9.cell? ⟨X, 9, none⟩ = some (.slice x6.da x6.dn x6.dc) := cx 9
                    clear cx
                    obtain ⟨ly, cy, fy⟩ := OY9.out.blk
                    have cy0 : w9.cell? ⟨Y, 0, none⟩ = some (.int .i64 x8.kind) := cy 0
                    have cy1 : w9.cell? ⟨Y, 1, none⟩ = some (.int .i64 x8.src) := cy 1
                    have cy2 : w9.cell? ⟨Y, 2, none⟩ = some (.int .i64 x8.dst) := cy 2
                    have cy3 : w9.cell? ⟨Y, 3, none⟩ = some (.int .i64 x8.prio) := cy 3
                    have cy4 : w9.cell? ⟨Y, 4, none⟩ = some (.int .u64 x8.msg) := cy 4
                    have cy5 : w9.cell? ⟨Y, 5, none⟩ = some (.int .i64 x8.off) := cy 5
                    have cy6 : w9.cell? ⟨Y, 6, none⟩ = some (.int .i64 x8.len) := cy 6
                    have cy7 : w9.cell? ⟨Y, 7, none⟩ = some (.int .i64 x8.total) := cy 7
                    have cy8 : w9.cell? ⟨Y, 8, none⟩ = some (.int .i64 x8.num) := cy 8
                    have cy9 : w9.cell? ⟨Y, 9, none⟩ = some (.slice x8.da x8.dn x8.dc) := cy 9
                    clear cy
                    unfold It.frv at hal
                    go_wp2_with fail
                    refine (hal).mono ?_
                    rintro e w10 ⟨rfl, hb10⟩
                    have F10 := Lib.hid (F9.out.below hb10)
                    clear hal hb10 lx fx ly fy cx0 cx1 cx2 cx3 cx4 cx5 cx6 cx7 cx8 cx9 cy0 cy1 cy2 cy3 cy4 cy5 cy6 cy7 cy8 cy9
                    go_wp2_with fail
                    go_meet
                    exact Lib.hid (F10.out.mono (by omega))
                  · have hkb3 : (s.k == 3) = false := beq_eq_false_iff_ne.2 hk3
                    clear hk3
                    by_cases hk4 : s.k = 4
                    · have hkb4 : (s.k == 4) = true := beq_iff_eq.2 hk4
                      clear hk4
                      go_wp2_with fail
                      have hzm : ¬ (FM f l5 s5 Z ∨ MM m ml5 ms5 Z) := HZM.out
                      refine wp_run (M := (fun y => FM f l5 s5 y ∨ MM m ml5 ms5 y)) (stages [([true, true, true, true, true, false, true, true, true, true, true, false, false], 5), ([false, false, false, false, false, false, false, false, false, false, false, false, false], 11)] [false, false, false, false, false, false, false, false, false, false, false, false, true]) (by kernel_rfl) (by kernel_rfl) ?_
                      refine run_stage rfl ?_
                      simp only [pickAt]
                      repeat (go_big_quiet_step (fail))
                      refine wpQuiet_nil ?_
                      refine run_want rfl ?_
                      intro A hA
                      go_simp
                      refine (fb_drop (G5.out.below (below_dn (n := 1) (Below.refl _ w5))) S5.out hN s.a s.x.path HSO.out.n.2).mono ?_
                      rintro e w6 ⟨g6, rfl, hk6, hcall⟩
                      have HC := Lib.hid hcall
                      refine hA _ _ (hk6.mono (fun _ _ h => .inl h)) ?_
                      try simp only [Act.put, List.setIfInBounds_toArray, List.set_cons_zero, List.set_cons_succ]
                      clear A hA
                      clear hk6 hcall
                      refine run_stage rfl ?_
                      simp only [pickAt]
                      repeat (go_big_quiet_step (fail))
                      refine wpQuiet_nil ?_
                      refine run_want rfl ?_
                      intro A hA
                      go_simp
                      refine (HC.out w6 (Below.refl _ _)).mono ?_
                      rintro e w7 ⟨rfl, hk7, hb7⟩
                      have F7 := Lib.hid hb7
                      refine hA _ _ (hk7.mono (fun _ _ h => .inr h)) ?_
                      try simp only [Act.put, List.setIfInBounds_toArray, List.set_cons_zero, List.set_cons_succ]
                      clear A hA
                      clear hk7 hb7
                      refine run_last ?_
                      simp only [pickAt]
                      repeat (go_big_quiet_step (fail))
                      refine wpQuiet_nil ?_
                      clear lz cz0 cz1 cz2 cz3 cz4 cz5 cz6 cz7 cz8 cz9 cz10 cz11 cz12
                      go_wp2_with fail
                      go_meet
                      exact Lib.hid (F7.out.mono (by omega))
                    · have hkb4 : (s.k == 4) = false := beq_eq_false_iff_ne.2 hk4
                      clear hk4
                      by_cases hk5 : s.k = 5
                      · have hkb5 : (s.k == 5) = true := beq_iff_eq.2 hk5
                        clear hk5
                        go_wp2_with fail
                        have hzm : ¬ (FM f l5 s5 Z ∨ MM m ml5 ms5 Z) := HZM.out
                        refine wp_run (M := (fun y => FM f l5 s5 y ∨ MM m ml5 ms5 y)) (stages [([true, true, true, true, true, false, true, true, true, true, true, false, false], 5), ([false, false, false, false, false, false, false, false, false, false, false, false, false], 11)] [false, false, false, false, false, false, false, false, false, false, false, false, true]) (by kernel_rfl) (by kernel_rfl) ?_
                        refine run_stage rfl ?_
                        simp only [pickAt]
                        repeat (go_big_quiet_step (fail))
                        refine wpQuiet_nil ?_
                        refine run_want rfl ?_
                        intro A hA
                        go_simp
                        refine (fb_double (G5.out.below (below_dn (n := 1) (Below.refl _ w5))) S5.out hN s.a s.x.path).mono ?_
                        rintro e w6 ⟨g6, rfl, hk6, hcall⟩
                        have HC := Lib.hid hcall
                        refine hA _ _ (hk6.mono (fun _ _ h => .inl h)) ?_
                        try simp only [Act.put, List.setIfInBounds_toArray, List.set_cons_zero, List.set_cons_succ]
                        clear A hA
                        clear hk6 hcall
                        refine run_stage rfl ?_
                        simp only [pickAt]
                        repeat (go_big_quiet_step (fail))
                        refine wpQuiet_nil ?_
                        refine run_want rfl ?_
                        intro A hA
                        go_simp
                        refine (HC.out w6 (Below.refl _ _)).mono ?_
                        rintro e w7 ⟨rfl, hk7, hb7⟩
                        have F7 := Lib.hid hb7
                        refine hA _ _ (hk7.mono (fun _ _ h => .inr h)) ?_
                        try simp only [Act.put, List.setIfInBounds_toArray, List.set_cons_zero, List.set_cons_succ]
                        clear A hA
                        clear hk7 hb7
                        refine run_last ?_
                        simp only [pickAt]
                        repeat (go_big_quiet_step (fail))
                        refine wpQuiet_nil ?_
                        clear lz cz0 cz1 cz2 cz3 cz4 cz5 cz6 cz7 cz8 cz9 cz10 cz11 cz12
                        go_wp2_with fail
                        go_meet
                        exact Lib.hid (F7.out.mono (by omega))
                      · have hkb5 : (s.k == 5) = false := beq_eq_false_iff_ne.2 hk5
                        clear hk5
                        go_wp2_with fail
                        go_meet
                        exact Lib.hid ⟨l5, s5, ml5, ms5, G5.out, S5.out.mono (by omega)⟩
            case rest =>
              clear F5 OZ lz cz0
              rename World => w6
              obtain ⟨l6, s6, ml6, ms6, h6, hs6⟩ := hcut.out
              have G6 := Lib.hid h6
              have S6 := Lib.hid hs6
              clear h6 hs6 hcut
              go_wp2_with fail
              refine (fb_shows G6.out S6.out (by omega)).mono ?_
              rintro e w7 ⟨rfl, hb7⟩
              have F7 : Hid (Bs f w1.heap.size m (2 * (j + 1)) w w7) := Lib.hid ⟨l6, s6, ml6, ms6, G6.out.below hb7, S6.out⟩
              clear hb7
              go_wp2_with fail
              go_roundw
              case rel => exact ⟨j + 1, by omega, by go_num, F7⟩
              case measure => simp [intOf]; omega
          · obtain rfl : j = S.length := by omega
            obtain ⟨l6, s6, ml6, ms6, h6, hs6⟩ := FJ.out
            have hP : nP ms6.H ms6.S = nP s6.H s6.S := by rw [hs6.H, hs6.S]
            obtain ⟨l0, c0, c1, c2, c3⟩ := h6.mf.cells
            rw [hP] at c1
            have G6 := Lib.hid h6
            clear h6 hs6 hP c0 c2 c3 FJ
            go_wp2_with fail
            refine (waiting_no G6.out.fa (k := -1) (.inl (by decide))).mono ?_
            rintro e w7 ⟨rfl, rfl⟩
            go_wp2_with fail
            refine (waiting_no G6.out.fa (k := nP s6.H s6.S) (.inr (Int.le_refl _))).mono ?_
            rintro e w7 ⟨rfl, rfl⟩
            go_wp2_with fail
            refine (arrived_no G6.out.fa (k := -1) (.inl (by decide))).mono ?_
            rintro e w7 ⟨rfl, rfl⟩
            go_wp2_with fail
            refine (awake_f _).mono ?_
            rintro e w8 ⟨rfl, hb8⟩
            have F8 := Lib.hid ((G6.out.below hb8).bel)
            clear hb8
            go_wp2_with fail
            go_ret
            exact ⟨rfl, F8.out⟩
end Go.Proofs.Ytoihhidoafgoaaa
