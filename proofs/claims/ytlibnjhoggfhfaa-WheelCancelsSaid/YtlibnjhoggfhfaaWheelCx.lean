/- The law WheelCancels (chapter 2), walked. -/
import Derived.Test.YtlibnjhoggfhfaaWheelFu
import Derived.Test.YtlibnjhoggfhfaaWheelCp
namespace Go.Proofs.Ytlibnjhoggfhfaa
open Go.RowKit

abbrev TB : TypeId := 4
/-- the wheel, and which ones are gone -/
structure Cx (B Z : Nat) (V : Value) (s : Wl) (g : List Bool) (w : World) : Prop where
  a : Wh TW TD B B V s w
  g : Ob w Z (g.map Value.bool).toArray TB
  ne : ¬ WM B V Z
  lo : B ≤ Z
theorem Cx.kept {B Z : Nat} {V : Value} {s : Wl} {g : List Bool} {w w' : World} (h : Cx B Z V s g w) (hk : Kept (fun _ => False) w w') : Cx B Z V s g w' :=
  ⟨h.a.keptF hk, h.g.kept hk id, h.ne, h.lo⟩
theorem Cx.call {B Z : Nat} {V : Value} {s s' : Wl} {g : List Bool} {w w' : World} (h : Cx B Z V s g w) (hp : WhPostS TW TD B B V s' w w') : ∃ V', Cx B Z V' s' g w' ∧ Below B w w' ∧ ∀ x, WM B V' x → WM B V x := by
  obtain ⟨V', h1, h2, h3⟩ := hp
  exact ⟨V', ⟨h1, h.g.kept h2 h.ne, fun hh => h.ne (h3 _ hh), h.lo⟩, h2.belowAt (Nat.le_of_lt h.a.ob.lt) (fun x hx => (h.a.lt x hx).1), h3⟩
theorem Cx.set {B Z : Nat} {V : Value} {s : Wl} {g : List Bool} {w : World} (h : Cx B Z V s g w) (i : Nat) (b : Bool) : Cx B Z V s (g.set i b) (w.setCell ⟨Z, i, none⟩ (.bool b)) := by
  refine ⟨h.a.kept ((Kept.refl (Only Z) w).setO) (fun x hx hh => h.ne (by rw [show Z = x from (show x = Z from hh).symm]; exact hx)), Ob.cast (h.g.set i (.bool b)) ?_, h.ne, h.lo⟩
  rw [List.map_set]
  simp
theorem Cx.cell {B Z : Nat} {V : Value} {s : Wl} {g : List Bool} {w : World} (h : Cx B Z V s g w) {i : Nat} {b : Bool} (hi : g[i]? = some b) : w.cell? ⟨Z, i, none⟩ = some (.bool b) := by
  rw [h.g.blk.2.1 i]
  simp [hi]
theorem made_bools (n : Nat) : madeCells #[Value.bool false] n = ((List.replicate n false).map Value.bool).toArray := by
  rw [List.map_replicate]
  apply Array.ext'
  simp [madeCells, Nat.mod_one, List.map_const']
theorem info_bool : (Try.prog.info? TB).map (fun i => (i.zero, i.size, i.bytes)) = some (some (.bool false), 1, 1) := by kernel_rfl
set_option maxRecDepth 100000 in
set_option maxHeartbeats 8000000 in
theorem cancels_in (n : Nat) (to1 : Int) (l : List Int) (v : Value) (w : World) (h : Rd w 1 v l.length (l.map (Value.int .i64))) (hn : n ≤ 50) (hl : l.length ≤ 50) (t0 : 0 ≤ to1) (t1 : to1 ≤ 1000) : Calls Try.prog 5 #[.int .i64 n, v, .int .i64 to1] w (TrueBelow w) := by
  obtain ⟨v, cp, rfl, h1, h2⟩ := h.form
  have HR := Lib.hid h
  clear h
  have hni : (n : Int) ≤ 50 := by omega
  have hli : (l.length : Int) ≤ 50 := by omega
  go_enter Try.func5, Try.ntmps5
  go_wp2_with fail
  refine (new_dui 50 _ ⟨by decide, by decide⟩).mono ?_
  rintro e w1 ⟨rfl, hw, hb⟩
  have HB := Lib.hid hb
  have HW := Lib.hid hw
  have s1 := hb.size
  clear hw hb
  go_wp2_with fail
  generalize hB : w.heap.size = B at *
  have HBQ := Lib.hid hB
  clear hB
  go_loopw [9] (fun i wr => ∃ (k : Nat) (V : Value) (s : Wl), i = .int .i64 k ∧ k ≤ n ∧ Wh TW TD B B V s wr ∧ s.ok ∧ Adc k s ∧ Below B w wr) (fun i _ => n - (intOf i).toNat)
  case atStart => exact ⟨0, _, _, rfl, Nat.zero_le _, HW.out, new_ok (by decide) (by decide), ⟨rfl, rfl, rfl, rfl, fun x => ⟨fun hx => (by cases hx), fun ⟨i, h1, _⟩ => (by omega)⟩⟩, HB.out⟩
  case round =>
    obtain ⟨k, V, s, rfl, hk, hx, ho, had, hb⟩ := hrel
    have HX := Lib.hid hx
    have HO := Lib.hid ho
    have HAD := Lib.hid had
    have HBk := Lib.hid hb
    have sk : B ≤ wr.heap.size := by have := hb.size; rw [HBQ.out] at this; exact this
    clear hx ho had hb
    by_cases hlt : k < n
    · have hlen : ((s.l.length : Nat) : Int) < s.most := by rw [HAD.out.1, HAD.out.2.2.2.1]; omega
      have hlast : s.last < 1000000000 := by rw [HAD.out.2.2.1]; omega
      have HL := Lib.hid hlen
      have HLA := Lib.hid hlast
      clear hlen hlast
      go_wp2_with fail
      rw [show (k : Int) * 7 % 100 = ((k * 7 % 100 : Nat) : Int) by omega]
      refine (add_dui B B V s _ k _ HX.out HO.out (Int.natCast_nonneg _) (by omega) HL.out HLA.out).mono ?_
      rintro e w3 ⟨rfl, hp3⟩
      have hl3 : s.last + 1 = (k : Int) + 1 := by rw [HAD.out.2.2.1]
      rw [hl3]
      have B3 := Lib.hid (HBk.out.trans (hp3.below HX.out (Nat.le_refl _)))
      obtain ⟨V3, hx3, _⟩ := hp3
      have HX3 := Lib.hid hx3
      clear hx3 hl3
      go_wp2_with fail
      go_roundw
      case rel => exact ⟨k + 1, V3, _, by go_num, by omega, HX3.out, plus_ok HO.out rfl HL.out HLA.out, adc_plus HAD.out HO.out, B3.out⟩
      case measure => simp [intOf]; omega
    · obtain rfl : k = n := by omega
      obtain ⟨i0, hi0, hz0, hs0, hb0⟩ := info_parts info_bool
      have lbw := HX.out.ob.lt
      have hC : Cx B wr.heap.size V s (List.replicate (k + 1) false) (wr.alloc (.cells (madeCells #[Value.bool false] (k + 1)) TB)) :=
        ⟨HX.out.alloc _, Ob.cast (Ob.new _ _ _) (made_bools _), fun hh => by have := (HX.out.lt _ hh).2; omega, sk⟩
      have HC := Lib.hid hC
      have B3 := Lib.hid (HBk.out.alloc sk (.cells (madeCells #[Value.bool false] (k + 1)) TB))
      clear hC
      go_wp2_with (refine wpList_make_row _ rfl (.tmp 73) (.tmp 73) _ rfl TB i0 (.bool false) (by rfl) hi0 hz0 hs0 rfl .i64 .i64 (k + 1) rfl rfl (by rw [hb0]; omega) (by omega) ?_)
      have hZ0 : wr.heap.size ≤ (wr.alloc (.cells (madeCells #[Value.bool false] (k + 1)) TB)).heap.size := by rw [World.size_alloc]; omega
      generalize wr.alloc (.cells (madeCells #[Value.bool false] (k + 1)) TB) = w4 at *
      generalize wr.heap.size = Z at *
      have hwt := wt_start HAD.out
      have HWT := Lib.hid hwt
      clear hwt HX HBk
      go_loopw [13] (fun i wq => ∃ (j : Nat) (V : Value) (s : Wl) (g : List Bool), i = .int .i64 j ∧ j ≤ l.length ∧ Cx B Z V s g wq ∧ s.ok ∧ s.now = 0 ∧ g.length = k + 1 ∧ Wt k g s.l ∧ Below B w wq) (fun i _ => l.length - (intOf i).toNat)
      case atStart => exact ⟨0, V, s, _, rfl, Nat.zero_le _, HC.out, HO.out, HAD.out.2.1, by rw [List.length_replicate], HWT.out, B3.out⟩
      case round =>
        clear HC HO HAD HWT B3
        obtain ⟨j, V, s, g, rfl, hj, hc, ho, hnow, hgl, hwt, hb⟩ := hrel
        have HC := Lib.hid hc
        have HO := Lib.hid ho
        have HN := Lib.hid hnow
        have HG := Lib.hid hgl
        have HWT := Lib.hid hwt
        have Bq := Lib.hid hb
        have sq := hb.size
        rw [HBQ.out] at sq
        clear hc ho hnow hgl hwt hb
        by_cases hlt2 : j < l.length
        · obtain ⟨b, o, rfl, c0⟩ := (HR.out.below (by rw [HBQ.out]; exact Bq.out)).at j hlt2
          have hbB : b < B := by
            obtain ⟨_, _, _, he, _, _, hb, _⟩ := HR.out.some (by omega) (by decide)
            cases he; rw [← HBQ.out]; exact hb
          have hZb : b ≠ Z := by have := HC.out.lo; omega
          generalize l[j] = x at *
          rcases (by omega : x < 1 ∨ (1 ≤ x ∧ (k : Int) < x) ∨ (1 ≤ x ∧ x ≤ (k : Int))) with hx | ⟨hx, hx2⟩ | ⟨hx, hx2⟩
          iterate 2
            · have hno := wt_none HWT.out (id := x) (by omega)
              go_wp2_with fail
              refine (cancel_dui B B V s x _ HC.out.a HO.out).mono ?_
              rw [less_same hno]
              rintro e w5 ⟨rfl, hp5⟩
              rw [if_neg (by rw [hno]; decide)]
              obtain ⟨V5, hc5, hb5, hV5⟩ := HC.out.call hp5
              have c5 : w5.cell? ⟨b, o + j, none⟩ = some (.int .i64 x) := (hb5.cell (p := ⟨b, o + j, none⟩) hbB).trans c0
              have HC5 := Lib.hid hc5
              have B5 := Lib.hid (Bq.out.trans hb5)
              clear hc5 hb5 c0 hp5 hno
              go_wp2_with fail
              go_roundw
              case rel => exact ⟨j + 1, V5, s, g, by go_num, by omega, HC5.out, HO.out, HN.out, HG.out, HWT.out, B5.out⟩
              case measure => simp [intOf]; omega
          · obtain ⟨q, rfl⟩ : ∃ q : Nat, x = (q : Int) := ⟨x.toNat, by omega⟩
            obtain ⟨p, HP⟩ : ∃ p : Nat, Hid (q = p + 1) := ⟨q - 1, Lib.hid (by omega)⟩
            have hpk : p < k := by have := HP.out; omega
            have hqk : q < k + 1 := by omega
            obtain ⟨bb, hbb⟩ : ∃ bb, g[q]? = some bb := ⟨g[q]'(by rw [HG.out]; omega), List.getElem?_eq_getElem _⟩
            have HBB := Lib.hid hbb
            have hqp : (q : Int) = (p : Int) + 1 := by rw [HP.out]; rfl
            have hany := wt_any HWT.out p
            rw [← HP.out, hbb, ← hqp] at hany
            clear hqp
            cases bb with
            | true =>
              have hno : s.l.any (fun y => y.id == (q : Int)) = false := by
                cases hh : s.l.any (fun y => y.id == (q : Int)) with
                | false => rfl
                | true => have := (hany.1 hh).2; cases this
              clear hany hbb
              go_wp2_with fail
              refine (cancel_dui B B V s q _ HC.out.a HO.out).mono ?_
              rw [less_same hno]
              rintro e w5 ⟨rfl, hp5⟩
              rw [if_neg (by rw [hno]; decide)]
              obtain ⟨V5, hc5, hb5, hV5⟩ := HC.out.call hp5
              have c5 : w5.cell? ⟨b, o + j, none⟩ = some (.int .i64 q) := (hb5.cell (p := ⟨b, o + j, none⟩) hbB).trans c0
              have d5 := hc5.cell HBB.out
              have HC5 := Lib.hid hc5
              have B5 := Lib.hid (Bq.out.trans hb5)
              clear hc5 hb5 c0 hp5 hno
              go_wp2_with fail
              go_roundw
              case rel => exact ⟨j + 1, V5, s, g, by go_num, by omega, HC5.out, HO.out, HN.out, HG.out, HWT.out, B5.out⟩
              case measure => simp [intOf]; omega
            | false =>
              have hyes : s.l.any (fun y => y.id == (q : Int)) = true := hany.2 ⟨hpk, rfl⟩
              have hlw : Hid (Wt k (g.set q true) (s.less q).l) := Lib.hid (by
                have h9 := wt_less HWT.out HO.out hpk HG.out
                rw [← HP.out] at h9
                rw [show (q : Int) = (p : Int) + 1 by rw [HP.out]; rfl]
                exact h9)
              clear hany hbb
              go_wp2_with fail
              refine (cancel_dui B B V s q _ HC.out.a HO.out).mono ?_
              rintro e w5 ⟨rfl, hp5⟩
              rw [if_pos hyes]
              obtain ⟨V5, hc5, hb5, hV5⟩ := HC.out.call hp5
              have c5 : w5.cell? ⟨b, o + j, none⟩ = some (.int .i64 q) := (hb5.cell (p := ⟨b, o + j, none⟩) hbB).trans c0
              have d5 := hc5.cell HBB.out
              have f5 : w5.frozen? ⟨Z, q, none⟩ = false := hc5.g.blk.2.2 q
              have HC5 := Lib.hid (hc5.set q true)
              have B5 := Lib.hid ((Bq.out.trans hb5).setCell (p := ⟨Z, q, none⟩) hc5.lo (.bool true))
              clear hc5 hb5 c0 hp5 hyes
              go_wp2_with fail
              go_roundw
              case rel => exact ⟨j + 1, V5, _, _, by go_num, by omega, HC5.out, less_ok HO.out _, HN.out, by rw [List.length_set]; exact HG.out, hlw.out, B5.out⟩
              case measure => simp [intOf]; omega
        · obtain rfl : j = l.length := by omega
          go_wp2_with fail
          refine (adv_dui B B V s to1 _ HC.out.a HO.out).mono ?_
          rintro e w5 ⟨v5, rfl, hv5, hp5⟩
          have hth := then_is HN.out t0 t1
          obtain ⟨cle, ctk, cdr⟩ := cnt_split HO.out.up (s.then' to1)
          rw [hth] at ctk cdr
          have hog := out_goes s to1
          obtain ⟨O, HOQ⟩ : ∃ O, Hid (s.out to1 = O) := ⟨_, Lib.hid rfl⟩
          have HOT : Hid (∀ x ∈ O, x.at' ≤ to1) := Lib.hid (by rw [← HOQ.out]; unfold Wl.out; rw [hth]; exact ctk)
          have HGT : Hid (∀ x ∈ (s.goes to1).l, to1 < x.at') := Lib.hid (by unfold Wl.goes; rw [hth]; exact cdr)
          rw [HOQ.out] at hv5 hog
          obtain ⟨s5, HS5⟩ : ∃ s5, Hid (s.goes to1 = s5) := ⟨_, Lib.hid rfl⟩
          have hok5 := goes_ok HO.out to1
          rw [HS5.out] at hp5 hog hok5
          rw [HS5.out] at HGT
          have HUP : Hid ((O ++ s5.l).Pairwise Du.lt) := Lib.hid (by rw [hog]; exact HO.out.up)
          have HWT5 : Hid (Wt k g (O.drop 0 ++ s5.l)) := Lib.hid (by rw [List.drop_zero, hog]; exact HWT.out)
          have HO5 := Lib.hid hok5
          have hlo := own_lt hv5
          obtain ⟨V5, hc5, hb5, hV5⟩ := HC.out.call hp5
          have HVN : Hid (∀ x, v5.ownBlock = some x → ¬ WM B V5 x ∧ x ≠ Z) := Lib.hid (fun x hx => by
            have h8 := (hlo x hx).1
            have h9 := HC.out.g.blk.1
            refine ⟨fun hh => ?_, by omega⟩
            have := (HC.out.a.lt x (hV5 x hh)).2
            omega)
          obtain ⟨a5, k5, rfl, _, _⟩ := (Rd.of_own hv5).form
          have HV5 := Lib.hid (own_base hv5 sq)
          have HC5 := Lib.hid hc5
          have B5 := Lib.hid (Bq.out.trans hb5)
          clear hc5 hb5 hp5 hv5 hok5 hog hth cle ctk cdr hlo HC HO HN HWT Bq
          have hO : (O.length : Int) ≤ 9223372036854775807 := by omega
          go_wp2_with fail
          go_loopw [17] (fun i wz => ∃ (j : Nat) (g : List Bool), i = .int .i64 j ∧ j ≤ O.length ∧ Cx B Z V5 s5 g wz ∧ wz.ownsRow B TD 3 (.slice a5 O.length k5) O.length (O.flatMap Du.row) ∧ g.length = k + 1 ∧ Wt k g (O.drop j ++ s5.l) ∧ Below B w wz) (fun i _ => O.length - (intOf i).toNat)
          case atStart => exact ⟨0, g, rfl, Nat.zero_le _, HC5.out, HV5.out, HG.out, HWT5.out, B5.out⟩
          case round =>
            clear HC5 HV5 HG HWT5 B5
            obtain ⟨j, g, rfl, hj, hc, hv, hgl, hwt, hb⟩ := hrel
            have HC := Lib.hid hc
            have HV := Lib.hid hv
            have HG := Lib.hid hgl
            have HWT := Lib.hid hwt
            have Bq := Lib.hid hb
            have sq := hb.size
            rw [HBQ.out] at sq
            clear hc hv hgl hwt hb
            by_cases hlt3 : j < O.length
            · obtain ⟨p, hpk, hxe, hgp⟩ := (HWT.out O[j]).1 (by rw [List.drop_eq_getElem_cons hlt3]; exact .head _)
              have hat : O[j].at' ≤ to1 := HOT.out _ (List.getElem_mem hlt3)
              obtain ⟨q, HP⟩ : ∃ q : Nat, Hid (q = p + 1) := ⟨p + 1, Lib.hid rfl⟩
              have hq1 : 1 ≤ (q : Int) := by have := HP.out; omega
              have hqk : (q : Int) ≤ k := by have := HP.out; omega
              have hqn : q < k + 1 := by omega
              obtain ⟨ga, oa, he, hga, cwa⟩ := Rd.row rowDu (by decide) (Rd.of_own HV.out) j hlt3
              cases he
              have hgZ : ga ≠ Z := fun hh => (HVN.out ga rfl).2 hh
              rw [hxe] at cwa hat
              have hiq : (itm p).id = (q : Int) := by rw [HP.out]; rfl
              have hxr : (itm p).row = [.int .i64 (itm p).at', .int .i64 q, .int .i64 p] := by
                rw [← hiq]; rfl
              rw [hxr] at cwa
              rw [← HP.out] at hgp
              have HNX : Hid (Wt k (g.set q true) (O.drop (j + 1) ++ s5.l)) := Lib.hid (by
                have h9 := wt_next HWT.out hlt3 HUP.out HG.out hxe hpk
                rw [← HP.out] at h9
                exact h9)
              generalize (itm p).at' = y at *
              have c0 := cwa 0 (.int .i64 y) rfl
              have c1 := cwa 1 (.int .i64 q) rfl
              rw [Nat.add_zero] at c0
              have d5 := HC.out.cell hgp
              have f5 : wr.frozen? ⟨Z, q, none⟩ = false := HC.out.g.blk.2.2 q
              clear cwa hxr hiq hgp hxe
              go_wp2_with fail
              go_roundw
              case rel =>
                exact ⟨j + 1, _, by go_num, by omega, HC.out.set q true, own_kept HV.out ((Kept.refl (Only Z) wr).setO) (fun x hx hh => (HVN.out x hx).2 hh), by rw [List.length_set]; exact HG.out, HNX.out, Bq.out.setCell (p := ⟨Z, q, none⟩) HC.out.lo (.bool true)⟩
              case measure => simp [intOf]; omega
            · obtain rfl : j = O.length := by omega
              have hwt := HWT.out
              rw [List.drop_length, List.nil_append] at hwt
              have HWT6 := Lib.hid hwt
              clear hwt HWT HV HVN HOT
              go_wp2_with fail
              go_loopw [18, 19] (fun lf i wz => ∃ (m q : Nat), i = .int .i64 q ∧ q = m + 1 ∧ lf = .int .i64 (lft g m).length ∧ m ≤ k ∧ Cx B Z V5 s5 g wz ∧ Below B w wz) (fun _ i _ => k + 1 - (intOf i).toNat)
              case atStart => exact ⟨0, 1, rfl, rfl, rfl, Nat.zero_le _, HC.out, Bq.out⟩
              case round =>
                clear HC Bq
                obtain ⟨m, q, rfl, hmq, rfl, hmk, hc, hb⟩ := hrel
                have HC := Lib.hid hc
                have HMQ := Lib.hid hmq
                have Bq := Lib.hid hb
                have sq := hb.size
                rw [HBQ.out] at sq
                have hlf := lft_le g m
                have hst := lft_step g m
                clear hc hb
                by_cases hlt4 : m < k
                · have hqk : (q : Int) ≤ k := by omega
                  have hq1 : 1 ≤ (q : Int) := by omega
                  have hqn : q < k + 1 := by omega
                  rw [← HMQ.out] at hst
                  obtain ⟨bb, hbb⟩ : ∃ bb, g[q]? = some bb := ⟨g[q]'(by rw [HG.out]; omega), List.getElem?_eq_getElem _⟩
                  have d5 := HC.out.cell hbb
                  cases bb with
                  | true =>
                    rw [hbb, if_neg (by decide)] at hst
                    have HST := Lib.hid hst
                    generalize (lft g m).length = N at *
                    clear hst hbb hmq
                    go_wp2_with fail
                    go_roundw
                    case rel => exact ⟨q, q + 1, by go_num, rfl, by rw [HST.out]; rfl, by omega, HC.out, Bq.out⟩
                    case measure => simp [intOf]; omega
                  | false =>
                    rw [hbb, if_pos rfl] at hst
                    have HST := Lib.hid hst
                    have hgt : to1 < ((m * 7 % 100 : Nat) : Int) := HGT.out (itm m) ((HWT6.out _).2 ⟨m, hlt4, rfl, by rw [← HMQ.out]; exact hbb⟩)
                    generalize (lft g m).length = N at *
                    have hd : decide (((q : Int) - 1) * 7 % 100 ≤ to1) = false := decide_eq_false (by have := HMQ.out; omega)
                    clear hst hbb hmq hgt
                    go_wp2_with fail
                    go_roundw
                    case rel => exact ⟨q, q + 1, by go_num, rfl, by rw [HST.out]; go_num, by omega, HC.out, Bq.out⟩
                    case measure => simp [intOf]; omega
                · obtain rfl : m = k := by omega
                  have hlen := wt_len HWT6.out (HUP.out.sublist (List.sublist_append_right _ _))
                  rw [← hlen] at hlf hst
                  rw [← hlen]
                  have hd : decide ((q : Int) ≤ (m : Int)) = false := decide_eq_false (by omega)
                  clear hlen hst
                  go_wp2_with fail
                  refine (len_dui B B V5 s5 _ HC.out.a).mono ?_
                  rintro e w6 ⟨rfl, rfl⟩
                  go_wp2_with fail
                  go_wp2_with fail
                  refine (awake_any _).mono ?_
                  rintro e w7 ⟨rfl, hb7⟩
                  go_wp2_with fail
                  go_ret
                  refine ⟨by simp, ?_⟩
                  rw [HBQ.out]
                  exact Bq.out.trans (hb7.mono sq)
set_option maxRecDepth 100000 in
theorem cancels_any (n to1 : Int) (l : List Int) (v : Value) (w : World) (h : Rd w 1 v l.length (l.map (Value.int .i64))) : Calls Try.prog 5 #[.int .i64 n, v, .int .i64 to1] w (TrueBelow w) := by
  by_cases hc : (0 ≤ n ∧ n ≤ 50) ∧ l.length ≤ 50 ∧ 0 ≤ to1 ∧ to1 ≤ 1000
  · obtain ⟨⟨h1, h2⟩, h3, h4, h5⟩ := hc
    obtain ⟨n, rfl⟩ : ∃ m : Nat, n = (m : Int) := ⟨n.toNat, by omega⟩
    exact cancels_in n to1 l v w h (by omega) h3 h4 h5
  · have hc2 : n < 0 ∨ (0 ≤ n ∧ 50 < n) ∨ ((0 ≤ n ∧ n ≤ 50) ∧ 50 < l.length) ∨ ((0 ≤ n ∧ n ≤ 50) ∧ l.length ≤ 50 ∧ to1 < 0) ∨ ((0 ≤ n ∧ n ≤ 50) ∧ l.length ≤ 50 ∧ 0 ≤ to1 ∧ 1000 < to1) := by omega
    obtain ⟨v, cp, rfl, h1, h2⟩ := h.form
    clear h hc
    rcases hc2 with h | ⟨h, h3⟩ | ⟨⟨h, h3⟩, h4⟩ | ⟨⟨h, h3⟩, h4, h5⟩ | ⟨⟨h, h3⟩, h4, h5, h6⟩
    all_goals
      go_enter Try.func5, Try.ntmps5
      go_wp2_with fail
      refine (awake_any _).mono ?_
      rintro e w2 ⟨rfl, hb⟩
      go_wp2_with fail
      go_ret
      exact ⟨rfl, hb⟩
end Go.Proofs.Ytlibnjhoggfhfaa
