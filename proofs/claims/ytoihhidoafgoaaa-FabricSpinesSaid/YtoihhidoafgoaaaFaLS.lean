/- FabricSpines: a frame goes by the spine that its path names. -/
import Derived.Test.YtoihhidoafgoaaaMJ
import Derived.Test.YtoihhidoafgoaaaAlike
import Derived.Test.YtoihhidoafgoaaaFrame
namespace Go.Proofs.Ytoihhidoafgoaaa
open Go.RowKit

structure One (Q : Nat → List It) (n : Nat) (x : It) : Prop where
  at' : Q n = [x]
  no : ∀ i, i ≠ n → Q i = []
theorem byN_one {Q : Nat → List It} {n : Nat} {x : It} (h : One Q n x) (k : Int) : ∀ m, byN' k Q m = if n < m then by1 k x else 0
  | 0 => rfl
  | m + 1 => by
    rw [byN', byN_one h k m]
    by_cases e : m = n
    · subst e
      rw [h.at', if_neg (Nat.lt_irrefl _), if_pos (Nat.lt_succ_self _), byL_cons, byL_nil]
      omega
    · rw [h.no m e, byL_nil]
      by_cases e2 : n < m
      · rw [if_pos e2, if_pos (by omega)]; omega
      · rw [if_neg e2, if_neg (by omega)]; omega
theorem byN_none {Q : Nat → List It} (h : ∀ i, Q i = []) (k : Int) : ∀ m, byN' k Q m = 0
  | 0 => rfl
  | m + 1 => by rw [byN', byN_none h k m, h, byL_nil]; rfl
section
variable {f B0 H S : Nat} {Q A : Nat → List It} {R Lo : Int} {N : Nat} {W0 w : World}
theorem fi_move (h : Fi f B0 H S Q A R Lo N W0 w) {n m : Nat} {now : Int} {x : It} (ho : One Q n x) (hn : n < nP H S) (_ : m < nP H S) (hnx : nxt H S n x.dst.toNat x.path = ((m : Int), false)) (hne : m ≠ n) (hN : N ≤ 1000000) (hR : x.sz ≤ R) (hna : ¬ (H ≤ n ∧ n < 2 * H)) :
    Calls Try.prog 12 #[.pointer (some ⟨f, 0, none⟩), .int .i64 n, .int .i64 now] w fun e w' => ∃ Q', e = .returned (.tuple #[.bool true, .int .i64 0]) ∧ One Q' m x ∧ Fi f B0 H S Q' A R Lo (N + 2) W0 w' := by
  refine (fi_serve h hn hN (fun y q m' hq _ => ?_) (fun y q hq => ?_)).mono ?_
  · rw [ho.at'] at hq
    cases hq
    have : upd Q n [] m' = ([] : List It) := by
      unfold upd
      split
      · rfl
      · rename_i hne; exact ho.no m' hne
    rw [this, sumZ_nil]
    omega
  · rw [ho.at'] at hq
    cases hq
    rw [hnx]
    intro hh
    have := (Prod.mk.inj hh).1
    omega
  · rintro e w' ⟨b, Q', A', rfl, hs, hf⟩
    cases hs with
    | none hq => rw [ho.at'] at hq; cases hq
    | arr y q hq h1 h2 => exact absurd ⟨h1, h2⟩ hna
    | move y q m' hq hm' hn' =>
      rw [ho.at'] at hq
      cases hq
      rw [hnx] at hn'
      have := (Prod.mk.inj hn').1
      obtain rfl : m = m' := by omega
      refine ⟨_, rfl, ⟨?_, fun i hi => ?_⟩, hf⟩
      · rw [upd_same, upd_other _ _ hne, ho.no m hne]; rfl
      · rw [upd_other _ _ hi]
        unfold upd
        split
        · rfl
        · rename_i hne; exact ho.no i hne
theorem fi_arr (h : Fi f B0 H S Q A R Lo N W0 w) {n : Nat} {now : Int} {x : It} (ho : One Q n x) (hn : n < nP H S) (hN : N ≤ 1000000) (hR : x.sz ≤ R) (hna : H ≤ n ∧ n < 2 * H) :
    Calls Try.prog 12 #[.pointer (some ⟨f, 0, none⟩), .int .i64 n, .int .i64 now] w fun e w' => ∃ Q', e = .returned (.tuple #[.bool true, .int .i64 0]) ∧ (∀ i, Q' i = []) ∧ Fi f B0 H S Q' (upd A (n - H) (A (n - H) ++ [x])) R Lo (N + 2) W0 w' := by
  refine (fi_serve h hn hN (fun y q m' hq _ => ?_) (fun y q hq hh => ?_)).mono ?_
  · rw [ho.at'] at hq
    cases hq
    have : upd Q n [] m' = ([] : List It) := by
      unfold upd
      split
      · rfl
      · rename_i hne; exact ho.no m' hne
    rw [this, sumZ_nil]
    omega
  · have := (nxt_lt (H := H) (S := S) (p := n) (d := y.dst.toNat) (path := y.path)).2 hna
    rw [hh] at this
    cases this
  · rintro e w' ⟨b, Q', A', rfl, hs, hf⟩
    cases hs with
    | none hq => rw [ho.at'] at hq; cases hq
    | arr y q hq h1 h2 =>
      rw [ho.at'] at hq
      cases hq
      refine ⟨_, rfl, fun i => ?_, hf⟩
      unfold upd
      split
      · rfl
      · rename_i hne; exact ho.no i hne
    | move y q m' hq hm' hn' =>
      have := (nxt_lt (H := H) (S := S) (p := n) (d := y.dst.toNat) (path := y.path)).2 hna
      rw [hn'] at this
      cases this
end
def fHi (a : Option Addr) (c : Nat) (path : Int) : It := ⟨1, 0, 3, 0, 0, 0, 2, 2, 0, a, 2, c, path, [104, 105]⟩
theorem fHi_ok {a : Option Addr} {c : Nat} {path : Int} : okF (fHi a c path).fr := by
  show okF ⟨1, 0, 3, 0, 0, 0, 2, 2, 0, [104, 105]⟩
  exact (okF_iff _ (by decide)).2 (by decide)
theorem fHi_sz {a : Option Addr} {c : Nat} {path : Int} : (fHi a c path).sz = 28 := rfl
set_option maxRecDepth 100000 in
set_option maxHeartbeats 4000000 in
theorem spines_law (sp path : Int) (lose : Bool) (w : World) : Calls Try.prog 4 #[.int .i64 sp, .int .i64 path, .bool lose] w (TrueBelow w) := by
  by_cases hin : 1 ≤ sp ∧ sp ≤ 4
  case neg =>
    have hin2 : sp < 1 ∨ (1 ≤ sp ∧ 4 < sp) := by omega
    clear hin
    rcases hin2 with h1 | ⟨h1, h2⟩
    all_goals
      go_enter Try.func4, Try.ntmps4
      go_wp2_with fail
      refine (awake_f w).mono ?_
      rintro e w1 ⟨rfl, hb⟩
      have HB := Lib.hid hb
      clear hb
      go_wp2_with fail
      go_ret
      exact ⟨rfl, HB.out⟩
  case pos =>
    obtain ⟨S, rfl⟩ : ∃ S : Nat, sp = S := ⟨sp.toNat, by omega⟩
    have hs : Hs 4 S := ⟨by decide, by omega⟩
    have hS1 : 1 ≤ S := by omega
    have hS4 : S ≤ 4 := by omega
    have HS := Lib.hid hs
    have hnp : Hid (nP 4 S = 8 + 4 * S) := Lib.hid (by unfold nP lvs; omega)
    have e1 := Int.emod_nonneg path (show (S : Int) ≠ 0 by omega)
    have e2 := Int.emod_lt_of_pos path (show (0 : Int) < S by omega)
    obtain ⟨s0, hs0⟩ : ∃ s0 : Nat, path % (S : Int) = s0 := ⟨(path % (S : Int)).toNat, by omega⟩
    have HS0 := Lib.hid hs0
    have hs0S : s0 < S := by omega
    clear hin hs e1 e2 hs0
    go_enter Try.func4, Try.ntmps4
    go_wp2_with fail
    refine (fi_new 4 S 1000 2 false w HS.out (by decide) (by decide)).mono ?_
    rintro e w1 ⟨f, rfl, h1⟩
    have F1 := Lib.hid h1
    clear h1
    go_wp2_with fail
    refine (round_any path S w1 (by omega) (by omega)).mono ?_
    rintro e w2 ⟨rfl, rfl⟩
    rw [HS0.out]
    have hcv := Go.Joins.run_convert_bytes_const_at (P := Try.prog) w1 32 5 #[.int .u8 104, .int .u8 105] 2 2 w1.heap.size rfl Try.underlying32 Try.underlying5
    go_wp2_with fail
    clear hcv
    have hrd : Rd (w1.alloc (.cells #[.int .u8 104, .int .u8 105] TU (2, 3))) 1 (.slice (some ⟨w1.heap.size, 0, none⟩) 2 2) 2 (bcells [104, 105]) := by
      refine .inr ⟨⟨w1.heap.size, 0, none⟩, 2, rfl, Nat.le_refl _, by decide, rfl, fun j u hj => ?_⟩
      rw [addr_add, World.cell?_alloc_mark, Nat.zero_add, ← hj, List.getElem?_toArray]
      rfl
    have F2 := Lib.hid (F1.out.below ((Below.refl _ w1).alloc (Nat.le_refl _) (.cells #[.int .u8 104, .int .u8 105] TU (2, 3))))
    have hsd := fi_send F2.out (k := 0) (d := 3) (x := fHi (some ⟨w1.heap.size, 0, none⟩) 2 path) HS.out (by decide) (by decide) rfl (by decide) fHi_ok rfl hrd (by decide) ⟨by show (1 : Int) ≠ 11; decide, rfl⟩ (by rw [fHi_sz]; decide)
    unfold It.frv fHi at hsd
    refine hsd.mono ?_
    rintro e w2 ⟨rfl, h2⟩
    have F3 : Hid (Fi f w.heap.size 4 S (upd (fun _ => []) 0 [fHi none 0 path]) (fun _ => []) 1000 0 2 w w2) := Lib.hid h2
    clear h2 hsd hrd F2
    have O3 : Hid (One (upd (fun _ => []) 0 [fHi none 0 path]) 0 (fHi none 0 path)) := Lib.hid ⟨upd_same _ _ _, fun i hi => by rw [upd_other _ _ hi]⟩
    obtain ⟨up, hup⟩ : ∃ up : Nat, up = 8 + s0 := ⟨_, rfl⟩
    have hupi : (8 : Int) + (s0 : Int) = up := by omega
    have HUP := Lib.hid hup
    have HUPI := Lib.hid hupi
    have hsz : (fHi none 0 path).sz ≤ 1000 := by rw [fHi_sz]; decide
    have HSZ := Lib.hid hsz
    clear hup hupi hsz
    go_wp2_with fail
    refine (fi_move F3.out (now := 0) O3.out (by rw [hnp.out]; omega) (m := up) (by rw [hnp.out, HUP.out]; omega) (by unfold nxt; rw [if_pos (by decide), if_neg (show ¬ ((fHi none 0 path).dst.toNat / 2 = 0 / 2) by show ¬ (3 / 2 = 0 / 2); decide)]; show (((2 * 4 + 0 / 2 * S : Nat) : Int) + path % (S : Int), false) = _; rw [HS0.out, HUP.out]; simp) (by rw [HUP.out]; omega) (by decide) HSZ.out (by decide)).mono ?_
    rintro e w3 ⟨Q4, rfl, ho4, h4⟩
    have F4 := Lib.hid h4
    have O4 := Lib.hid ho4
    clear h4 ho4 O3
    go_wp2_with fail
    rw [HUPI.out]
    refine (fi_waiting F4.out (by decide) (k := up) (by rw [hnp.out, HUP.out]; omega)).mono ?_
    rintro e w4 ⟨rfl, hm⟩
    have F5 : Hid (Fi f w.heap.size 4 S Q4 (fun _ => []) 1000 0 4 w w4) := by obtain ⟨m, rfl⟩ := hm; exact Lib.hid (F4.out.dn m)
    clear hm F4
    rw [O4.out.at']
    have HB3 : Hid (byN' ((3 : Nat) : Int) Q4 (nP 4 S) = 2) := Lib.hid (by rw [byN_one O4.out, if_pos (by rw [hnp.out, HUP.out]; omega)]; rfl)
    have HB0 : Hid (byN' ((0 : Nat) : Int) Q4 (nP 4 S) = 0) := Lib.hid (by rw [byN_one O4.out, if_pos (by rw [hnp.out, HUP.out]; omega)]; rfl)
    have hby := fi_bytes F5.out (by decide) (k := 3) (by decide)
    rw [HB3.out] at hby
    go_wp2_with fail
    refine (hby).mono ?_
    rintro e w5 ⟨rfl, hb5⟩
    have F6 := Lib.hid (F5.out.below hb5)
    clear hby hb5 F5
    have hby := fi_bytes F6.out (by decide) (k := 0) (by decide)
    rw [HB0.out] at hby
    go_wp2_with fail
    refine (hby).mono ?_
    rintro e w6 ⟨rfl, hb6⟩
    have F7 := Lib.hid (F6.out.below hb6)
    clear hby hb6 F6
    go_wp2_with fail
    have hnp2 := hnp.out
    have HNP : Hid (nP 4 S ≤ 24) := Lib.hid (by omega)
    have hnp3 := HNP.out
    clear hnp2
    go_loopw [15] (fun i wr => ∃ j : Nat, j ≤ nP 4 S ∧ i = .int .i64 j ∧ Hid (Fi f w.heap.size 4 S Q4 (fun _ => []) 1000 0 4 w wr)) (fun i _ => nP 4 S - (intOf i).toNat)
    case atStart => exact ⟨0, by omega, rfl, F7⟩
    case round =>
      obtain ⟨j, hj, rfl, FJ⟩ := hrel
      clear F7
      rename World => wj
      by_cases hlt : j < nP 4 S
      · go_wp2_with fail
        refine (fi_ports FJ.out).mono ?_
        rintro e w8 ⟨rfl, rfl⟩
        by_cases hju : j = up
        · subst hju
          go_wp2_with fail
          go_roundw
          case rel => exact ⟨j + 1, by omega, by go_num, FJ⟩
          case measure => simp [intOf]; omega
        · have hne : ((j : Int) == (up : Int)) = false := beq_eq_false_iff_ne.2 (by omega)
          have hwt := fi_waiting FJ.out (by decide) hlt
          rw [O4.out.no j hju] at hwt
          go_wp2_with fail
          refine (hwt).mono ?_
          rintro e w8 ⟨rfl, hm⟩
          have FK : Hid (Fi f w.heap.size 4 S Q4 (fun _ => []) 1000 0 4 w w8) := by obtain ⟨m, rfl⟩ := hm; exact Lib.hid (FJ.out.dn m)
          clear hm hwt
          go_wp2_with fail
          go_roundw
          case rel => exact ⟨j + 1, by omega, by go_num, FK⟩
          case measure => simp [intOf]; omega
      · obtain rfl : j = nP 4 S := by omega
        go_wp2_with fail
        refine (fi_ports FJ.out).mono ?_
        rintro e w8 ⟨rfl, rfl⟩
        cases lose with
        | true =>
          go_wp2_with fail
          refine (fi_drop FJ.out (by decide) (n := up) (by rw [hnp.out, HUP.out]; omega) O4.out.at').mono ?_
          rintro e w9 ⟨rfl, h9⟩
          have F9 := Lib.hid h9
          clear h9
          have HQ9 := Lib.hid (show ∀ i, upd Q4 up [] i = [] from fun i => by
            unfold upd
            split
            · rfl
            · rename_i hne; exact O4.out.no i hne)
          go_wp2_with fail
          refine (fi_lost F9.out).mono ?_
          rintro e w10 ⟨rfl, rfl⟩
          go_wp2_with fail
          refine (fi_empty F9.out (by decide) (fun i _ => HQ9.out i) (fun _ _ => rfl)).mono ?_
          rintro e w10 ⟨rfl, hm⟩
          have F10 : Hid (Fi f w.heap.size 4 S (upd Q4 up []) (fun _ => []) 1000 (0 + 1) (4 + 2) w w10) := by obtain ⟨m, rfl⟩ := hm; exact Lib.hid (F9.out.dn m)
          clear hm
          go_wp2_with fail
          refine (fi_drop_no F10.out (by decide) (n := up) (by rw [hnp.out, HUP.out]; omega) (HQ9.out up)).mono ?_
          rintro e w11 ⟨rfl, h11⟩
          have F11 := Lib.hid h11
          clear h11
          have hby := fi_bytes F11.out (by decide) (k := 3) (by decide)
          rw [byN_none HQ9.out] at hby
          go_wp2_with fail
          refine (hby).mono ?_
          rintro e w12 ⟨rfl, hb12⟩
          have F12 := Lib.hid (F11.out.below hb12)
          clear hby hb12
          go_wp2_with fail
          refine (awake_f w12).mono ?_
          rintro e w13 ⟨rfl, hb13⟩
          have F13 := Lib.hid (F12.out.below hb13)
          clear hb13
          go_wp2_with fail
          go_ret
          exact ⟨rfl, F13.out.bel⟩
        | false =>
          obtain ⟨m2, hm2⟩ : ∃ m2 : Nat, m2 = 8 + 2 * S + 2 * s0 + 1 := ⟨_, rfl⟩
          have HM2 := Lib.hid hm2
          have hm2i : (8 : Int) + 2 * (S : Int) + 2 * (s0 : Int) + 1 = m2 := by omega
          have HM2I := Lib.hid hm2i
          clear hm2 hm2i
          have hnx : nxt 4 S up (fHi none 0 path).dst.toNat (fHi none 0 path).path = ((m2 : Int), false) := by
            unfold nxt
            rw [if_neg (by rw [HUP.out]; omega), if_neg (by rw [HUP.out]; omega), if_pos (by rw [HUP.out]; unfold lvs; omega), HM2.out, HUP.out, show 8 + s0 - 2 * 4 = s0 by omega, Nat.mod_eq_of_lt hs0S]
            show (((2 * 4 + (4 + 1) / 2 * S + s0 * ((4 + 1) / 2) + 3 / 2 : Nat) : Int), false) = _
            rw [Prod.mk.injEq]
            exact ⟨by omega, rfl⟩
          have HNX := Lib.hid hnx
          have hnx2 : nxt 4 S m2 (fHi none 0 path).dst.toNat (fHi none 0 path).path = (((7 : Nat) : Int), false) := by
            unfold nxt
            have e1 : m2 - 2 * 4 - lvs 4 * S = 2 * s0 + 1 := by rw [HM2.out]; unfold lvs; omega
            rw [if_neg (by rw [HM2.out]; omega), if_neg (by rw [HM2.out]; omega), if_neg (by rw [HM2.out]; unfold lvs; omega), e1, if_pos]
            · rfl
            · show 3 / 2 = (2 * s0 + 1) % ((4 + 1) / 2)
              omega
          have HNX2 := Lib.hid hnx2
          clear hnx hnx2
          go_wp2_with fail
          refine (fi_move FJ.out (now := 0) O4.out (by rw [hnp.out, HUP.out]; omega) (m := m2) (by rw [hnp.out, HM2.out]; omega) HNX.out (by rw [HM2.out, HUP.out]; omega) (by decide) HSZ.out (by rw [HUP.out]; omega)).mono ?_
          rintro e w9 ⟨Q9, rfl, ho9, h9⟩
          have F9 := Lib.hid h9
          have O9 := Lib.hid ho9
          clear h9 ho9
          go_wp2_with fail
          rw [HM2I.out]
          refine (fi_move F9.out (now := 0) O9.out (by rw [hnp.out, HM2.out]; omega) (m := 7) (by rw [hnp.out]; omega) HNX2.out (by rw [HM2.out]; omega) (by decide) HSZ.out (by rw [HM2.out]; omega)).mono ?_
          rintro e w10 ⟨Q10, rfl, ho10, h10⟩
          have F10 := Lib.hid h10
          have O10 := Lib.hid ho10
          clear h10 ho10
          go_wp2_with fail
          refine (fi_arr F10.out (now := 0) O10.out (by rw [hnp.out]; omega) (by decide) HSZ.out (by decide)).mono ?_
          rintro e w11 ⟨Q11, rfl, hq11, h11⟩
          have F11 : Hid (Fi f w.heap.size 4 S Q11 (upd (fun _ => []) 3 [fHi none 0 path]) 1000 0 10 w w11) := Lib.hid h11
          have HQ11 := Lib.hid hq11
          clear h11 hq11
          go_wp2_with fail
          refine (fi_take F11.out (k := 3) (x := fHi none 0 path) (r := []) (by decide) rfl (by decide)).mono ?_
          rintro e w12 ⟨x, rfl, hy, hrx, h12⟩
          have F12 := Lib.hid h12
          have hbs : x.bs = [104, 105] := congrArg It.bs hy
          have hdn : x.dn = 2 := congrArg It.dn hy
          rw [hbs, hdn] at hrx
          have RX := Lib.hid hrx
          have HDN := Lib.hid hdn
          clear h12 hy hbs hrx hdn
          unfold It.frv
          go_upto_region 23 with fail
          have OX := Lib.hid (Ob.new w12 #[.int .i64 x.kind, .int .i64 x.src, .int .i64 x.dst, .int .i64 x.prio, .int .u64 x.msg, .int .i64 x.off, .int .i64 x.len, .int .i64 x.total, .int .i64 x.num, .slice x.da x.dn x.dc] TFr)
          have F13 := Lib.hid (F12.out.below ((Below.refl _ w12).alloc (Nat.le_refl _) (.cells #[.int .i64 x.kind, .int .i64 x.src, .int .i64 x.dst, .int .i64 x.prio, .int .u64 x.msg, .int .i64 x.off, .int .i64 x.len, .int .i64 x.total, .int .i64 x.num, .slice x.da x.dn x.dc] TFr)))
          have R13 := Lib.hid (RX.out.below ((Below.refl _ w12).alloc (Nat.le_refl _) (.cells #[.int .i64 x.kind, .int .i64 x.src, .int .i64 x.dst, .int .i64 x.prio, .int .u64 x.msg, .int .i64 x.off, .int .i64 x.len, .int .i64 x.total, .int .i64 x.num, .slice x.da x.dn x.dc] TFr)))
          obtain ⟨X, HX⟩ : ∃ X, Hid (w12.heap.size = X) := ⟨_, Lib.hid rfl⟩
          rw [HX.out] at OX ⊢
          generalize w12.alloc (.cells #[.int .i64 x.kind, .int .i64 x.src, .int .i64 x.dst, .int .i64 x.prio, .int .u64 x.msg, .int .i64 x.off, .int .i64 x.len, .int .i64 x.total, .int .i64 x.num, .slice x.da x.dn x.dc] TFr) = w13 at *
          obtain ⟨lx, cx, fx⟩ := OX.out.blk
          have cx9 : w13.cell? ⟨X, 9, none⟩ = some (.slice x.da 2 x.dc) := (cx 9).trans (by rw [← HDN.out]; rfl)
          clear cx
          have hstr : ((⟨[104, 105].toArray⟩ : ByteArray) == ⟨#[104, 105]⟩) = true := by decide
          go_wp2_with (refine wpList_str rfl _ _ (.tmp 170) rfl Try.underlying32 Try.underlying5 Try.underlying9 (l := [104, 105]) R13.out rfl ?_)
          refine (fi_empty F13.out (by decide) (fun i _ => HQ11.out i) (fun i _ => by unfold upd; split <;> (try split) <;> rfl)).mono ?_
          rintro e w14 ⟨rfl, hm⟩
          have F14 : Hid (Fi f w.heap.size 4 S Q11 (upd (upd (fun _ => []) 3 [fHi none 0 path]) 3 []) 1000 0 10 w w14) := by obtain ⟨m, rfl⟩ := hm; exact Lib.hid (F13.out.dn m)
          clear hm
          go_wp2_with fail
          refine (fi_lost F14.out).mono ?_
          rintro e w15 ⟨rfl, rfl⟩
          go_wp2_with fail
          refine (awake_f w14).mono ?_
          rintro e w16 ⟨rfl, hb16⟩
          have F16 := Lib.hid (F14.out.below hb16)
          clear hb16
          go_wp2_with fail
          go_ret
          exact ⟨rfl, F16.out.bel⟩
end Go.Proofs.Ytoihhidoafgoaaa
