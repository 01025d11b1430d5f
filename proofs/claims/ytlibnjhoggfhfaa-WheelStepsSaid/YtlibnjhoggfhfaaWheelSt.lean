/- The law WheelSteps (chapter 2), walked. -/
import Derived.Test.YtlibnjhoggfhfaaWheelFu
import Derived.Deep.CutBlock
namespace Go.Proofs.Ytlibnjhoggfhfaa
open Go.RowKit

theorem kept_ex {w W : World} (h : ∃ n, W = w.drewN n) : Kept (fun _ => False) w W := by
  obtain ⟨n, rfl⟩ := h
  exact Kept.dn _ _ _
/-- two wheels side by side -/
structure X2 (B C : Nat) (V U : Value) (s t : Wl) (w : World) : Prop where
  a : Wh TW TD B B V s w
  b : Wh TW TD C B U t w
  ap : ∀ x, WM B V x → ¬ WM C U x
theorem X2.first {B C : Nat} {V U : Value} {s t s' : Wl} {w w' : World} (h : X2 B C V U s t w) (hp : WhPost TW TD B B V s' w w') : ∃ V', X2 B C V' U s' t w' ∧ Below B w w' := by
  obtain ⟨V', h1, h2, h3⟩ := hp
  refine ⟨V', ⟨h1, h.b.kept h2 (fun x hx hh => h.ap x hh hx), fun x hx hu => ?_⟩, h2.belowAt (Nat.le_of_lt h.a.ob.lt) (fun x hx => (h.a.lt x hx).1)⟩
  rcases h3 x hx with hh | hh
  · exact h.ap x hh hu
  · have := (h.b.lt x hu).2; omega
theorem X2.second {B C : Nat} {V U : Value} {s t t' : Wl} {w w' : World} (h : X2 B C V U s t w) (hp : WhPost TW TD C B U t' w w') : ∃ U', X2 B C V U' s t' w' ∧ Below B w w' := by
  obtain ⟨U', h1, h2, h3⟩ := hp
  refine ⟨U', ⟨h.a.kept h2 (fun x hx hh => h.ap x hx hh), h1, fun x hx hu => ?_⟩, h2.belowAt (Nat.le_of_lt h.a.ob.lt) (fun x hx => (h.b.lt x hx).1)⟩
  rcases h3 x hu with hh | hh
  · exact h.ap x hx hh
  · have := (h.a.lt x hx).2; omega
/-- what waits is what was added: its number, and where it stood -/
def Adds (l : List Int) (k : Nat) (s : Wl) : Prop := s.most = 100 ∧ s.now = 0 ∧ s.last = (k : Int) ∧ s.l.length = k ∧ ∀ x ∈ s.l, ∃ (i : Nat) (h : i < l.length), i < k ∧ x = ⟨l[i], (i : Int) + 1, .int .i64 i⟩
theorem adds_plus {l : List Int} {k : Nat} {s : Wl} (h : Adds l k s) (ho : s.ok) (hk : k < l.length) (h0 : 0 ≤ l[k]) : Adds l (k + 1) (s.plus l[k] (.int .i64 k)) := by
  obtain ⟨a1, a2, a3, a4, a5⟩ := h
  refine ⟨a1, a2, by show s.last + 1 = _; rw [a3]; rfl, by rw [plus_len ho, a4], fun x hx => ?_⟩
  rcases plus_mem.1 hx with rfl | hx
  · refine ⟨k, hk, Nat.lt_succ_self _, ?_⟩
    rw [a2, a3, Int.max_eq_left h0]
  · obtain ⟨i, h1, h2, h3⟩ := a5 x hx
    exact ⟨i, h1, by omega, h3⟩
theorem all_out {s : Wl} (h : s.ok) (hb : ∀ x ∈ s.l, x.at' ≤ 1125899906842624) : s.out 1125899906842624 = s.l ∧ (s.goes 1125899906842624).l = [] := by
  have ht : s.then' 1125899906842624 = 1125899906842624 := by
    have := h.n1
    unfold Wl.then' clampI
    split
    · omega
    · rw [if_neg (by omega)]
  have hc : s.cnt 1125899906842624 = s.l.length := cnt_eq (Nat.le_refl _) (fun x hx => hb x (List.mem_of_mem_take hx)) (fun x hx => by rw [List.drop_length] at hx; cases hx)
  constructor
  · unfold Wl.out; rw [ht, hc, List.take_length]
  · show s.l.drop (s.cnt (s.then' 1125899906842624)) = []
    rw [ht, hc, List.drop_length]
theorem out_goes (s : Wl) (tn : Int) : s.out tn ++ (s.goes tn).l = s.l := List.take_append_drop _ _
/-- what is behind the first wheel: the second one, all that came at once, and what has come by steps -/
structure Sx (B C : Nat) (U v3 D : Value) (t : Wl) (A dl : List Du) (w : World) : Prop where
  b : Wh TW TD C B U t w
  va : w.ownsRow B TD 3 v3 A.length (A.flatMap Du.row)
  d : w.ownsRow B TD 3 D dl.length (dl.flatMap Du.row)
  ap1 : ∀ x, v3.ownBlock = some x → ¬ WM C U x
  ap2 : ∀ x, D.ownBlock = some x → ¬ WM C U x ∧ v3.ownBlock ≠ some x
theorem Sx.kept {B C : Nat} {U v3 D : Value} {t : Wl} {A dl : List Du} {w w' : World} (h : Sx B C U v3 D t A dl w) (hk : Kept (fun _ => False) w w') : Sx B C U v3 D t A dl w' :=
  ⟨h.b.keptF hk, own_kept h.va hk (fun _ _ hh => hh), own_kept h.d hk (fun _ _ hh => hh), h.ap1, h.ap2⟩
theorem Sx.adv {B C : Nat} {U v3 D : Value} {t t' : Wl} {A dl : List Du} {w w' : World} (h : Sx B C U v3 D t A dl w) (hp : WhPostS TW TD C B U t' w w') : ∃ U', Sx B C U' v3 D t' A dl w' ∧ Below B w w' := by
  obtain ⟨U', h1, h2, h3⟩ := hp
  exact ⟨U', ⟨h1, own_kept h.va h2 (fun x hx hh => h.ap1 x hx hh), own_kept h.d h2 (fun x hx hh => (h.ap2 x hx).1 hh), fun x hx hh => h.ap1 x hx (h3 x hh), fun x hx => ⟨fun hh => (h.ap2 x hx).1 (h3 x hh), (h.ap2 x hx).2⟩⟩,
    h2.belowAt (by have := h.b.bb; have := h.b.ob.lt; omega) (fun x hx => (h.b.lt x hx).1)⟩
theorem Sx.app {B C n : Nat} {U v3 D D' : Value} {t : Wl} {A dl el : List Du} {xs : List Value} {w w' : World} (h : Sx B C U v3 D t A dl w) (ho : w'.ownsRow B TD 3 D' (dl.length + n) xs) (hx : xs = (dl ++ el).flatMap Du.row) (hn : n = el.length) (hg : w.grownBy w' D.ownBlock)
    (hb : D'.ownBlock = D.ownBlock ∨ D'.ownBlock = some w.heap.size) : Sx B C U v3 D' t A (dl ++ el) w' ∧ Below B w w' := by
  have hk := Kept.of_grown (M := fun y => D.ownBlock = some y) hg fun y hy => hy
  subst hx hn
  refine ⟨⟨h.b.kept hk (fun x hx hh => (h.ap2 x hh).1 hx), own_kept h.va hk (fun x hx hh => (h.ap2 x hh).2 hx), by rw [List.length_append]; exact ho, h.ap1, fun x hx => ?_⟩, hk.belowAt (by have := h.b.bb; have := h.b.ob.lt; omega) (fun y hy => (own_lt h.d y hy).1)⟩
  rcases hb with hb | hb
  · exact h.ap2 x (by rw [← hb]; exact hx)
  · rw [hb] at hx; injection hx with hx
    refine ⟨fun hh => by have := (h.b.lt x hh).2; omega, fun hh => by have := (own_lt h.va x hh).2; omega⟩
set_option maxRecDepth 100000 in
set_option maxHeartbeats 8000000 in
theorem steps_in (l r : List Int) (v u : Value) (w : World) (h : Rd w 1 v l.length (l.map (Value.int .i64))) (h' : Rd w 1 u r.length (r.map (Value.int .i64))) (hl : l.length ≤ 60) (hr : r.length ≤ 30) : Calls Try.prog 3 #[v, u] w (TrueBelow w) := by
  obtain ⟨v, cp, rfl, h1, h2⟩ := h.form
  obtain ⟨u, cq, rfl, h3, h4⟩ := h'.form
  have HR := Lib.hid h
  have HR' := Lib.hid h'
  clear h h'
  go_enter Try.func3, Try.ntmps3
  go_wp2_with fail
  refine (new_dui 100 _ ⟨by decide, by decide⟩).mono ?_
  rintro e w1 ⟨rfl, hw, hb⟩
  have HB := Lib.hid hb
  have HW := Lib.hid hw
  have s1 := hb.size
  have l1 := hw.ob.lt
  clear hw hb
  go_wp2_with fail
  refine (new_dui 100 _ ⟨by decide, by decide⟩).mono ?_
  rintro e w2 ⟨rfl, hw, hb⟩
  have HB2 := Lib.hid (HB.out.trans (hb.mono s1))
  generalize hC : w1.heap.size = C at *
  generalize hB : w.heap.size = B at *
  have HBQ := Lib.hid hB
  have HX2 : Hid (X2 B C (.slice none 0 0) (.slice none 0 0) ⟨100, 0, 0, []⟩ ⟨100, 0, 0, []⟩ w2) := Lib.hid ⟨HW.out.below (by rw [hC]; exact hb), hw.base s1, fun x hx hu => by
    rcases hx with rfl | hx
    · rcases hu with rfl | hu
      · omega
      · cases hu
    · cases hx⟩
  clear hw hb hB HW HB
  go_wp2_with fail
  go_loopw [9] (fun i wr => ∃ (k : Nat) (V U : Value) (s : Wl), i = .int .i64 k ∧ k ≤ l.length ∧ X2 B C V U s s wr ∧ s.ok ∧ Adds l k s ∧ (∀ x ∈ s.l, x.at' ≤ 1125899906842624) ∧ Below B w wr) (fun i _ => l.length - (intOf i).toNat)
  case atStart => exact ⟨0, _, _, _, rfl, Nat.zero_le _, HX2.out, new_ok (by decide) (by decide), ⟨rfl, rfl, rfl, rfl, fun x hx => (by cases hx)⟩, fun x hx => (by cases hx), HB2.out⟩
  case round =>
    obtain ⟨k, V, U, s, rfl, hk, hx, ho, had, hat, hb⟩ := hrel
    have HX := Lib.hid hx
    have HO := Lib.hid ho
    have HAD := Lib.hid had
    have HAT := Lib.hid hat
    have HBk := Lib.hid hb
    have sk : B ≤ wr.heap.size := by have := hb.size; rw [HBQ.out] at this; exact this
    clear hx ho had hat hb
    by_cases hlt : k < l.length
    · obtain ⟨b, o, rfl, c0⟩ := (HR.out.below (by rw [HBQ.out]; exact HBk.out)).at k hlt
      have hbB : b < B := by
        obtain ⟨_, _, _, he, _, _, hb, _⟩ := HR.out.some (by omega) (by decide)
        cases he; rw [← HBQ.out]; exact hb
      have HAP := Lib.hid (fun h0 : 0 ≤ l[k] => adds_plus HAD.out HO.out hlt h0)
      generalize l[k] = x at *
      rcases (by omega : x < 0 ∨ (0 ≤ x ∧ 1125899906842624 < x) ∨ (0 ≤ x ∧ x ≤ 1125899906842624)) with hx | ⟨hx, hx2⟩ | ⟨hx, hx2⟩
      iterate 2
        · first | (have hd : decide (1125899906842624 < x) = true := decide_eq_true hx2) | skip
          go_wp2_with fail
          go_wp2_with fail
          refine (awake_any _).mono ?_
          rintro e w3 ⟨rfl, hb3⟩
          go_wp2_with fail
          go_ret
          refine ⟨rfl, ?_⟩
          rw [HBQ.out]
          exact HBk.out.trans (hb3.mono sk)
      · have hd : decide (1125899906842624 < x) = false := decide_eq_false (by omega)
        have hlen : ((s.l.length : Nat) : Int) < s.most := by rw [HAD.out.1, HAD.out.2.2.2.1]; omega
        have hlast : s.last < 1000000000 := by rw [HAD.out.2.2.1]; omega
        have HL := Lib.hid hlen
        have HLA := Lib.hid hlast
        clear hlen hlast
        go_wp2_with fail
        refine (add_dui B B V s x k _ HX.out.a HO.out hx hx2 HL.out HLA.out).mono ?_
        rintro e w3 ⟨rfl, hp3⟩
        obtain ⟨V3, hx3, hb3⟩ := HX.out.first hp3
        have HX3 := Lib.hid hx3
        have B3 := Lib.hid (HBk.out.trans hb3)
        have c3 : w3.cell? ⟨b, o + k, none⟩ = some (.int .i64 x) := (hb3.cell (p := ⟨b, o + k, none⟩) hbB).trans c0
        clear hp3 hx3 hb3 c0
        go_wp2_with fail
        refine (add_dui C B U s x k _ HX3.out.b HO.out hx hx2 HL.out HLA.out).mono ?_
        rintro e w4 ⟨rfl, hp4⟩
        obtain ⟨U4, hx4, hb4⟩ := HX3.out.second hp4
        have HX4 := Lib.hid hx4
        have B4 := Lib.hid (B3.out.trans hb4)
        clear hp4 hx4 hb4
        go_wp2_with fail
        go_roundw
        case rel =>
          refine ⟨k + 1, V3, U4, _, by go_num, by omega, HX4.out, plus_ok HO.out rfl HL.out HLA.out, HAP.out hx, fun y hy => ?_, B4.out⟩
          rcases plus_mem.1 hy with rfl | hy
          · show max x s.now ≤ _; rw [HAD.out.2.1]; omega
          · exact HAT.out y hy
        case measure => simp [intOf]; omega
    · obtain rfl : k = l.length := by omega
      go_wp2_with fail
      refine (adv_dui B B V s 1125899906842624 _ HX.out.a HO.out).mono ?_
      rintro e w3 ⟨v3, rfl, hv3, hp3⟩
      obtain ⟨V3, hx3, hb3⟩ := HX.out.first hp3.weak
      have hal := (all_out HO.out HAT.out).1
      rw [hal] at hv3
      have B3 := Lib.hid (HBk.out.trans hb3)
      obtain ⟨A, HA⟩ : ∃ A, Hid (s.l = A) := ⟨_, Lib.hid rfl⟩
      have hSx : Sx B C U v3 (.slice none 0 0) s A [] w3 := by
        rw [HA.out] at hv3
        refine ⟨hx3.b, own_base hv3 sk, World.ownsRow_nil _ _ _ _, fun x hx hh => ?_, fun x hx => (by cases hx)⟩
        have h1 := (own_lt hv3 x hx).1
        have h2 := (HX.out.b.lt x hh).2
        omega
      have HSx := Lib.hid hSx
      have hAl : A.length = l.length := by rw [← HA.out]; exact HAD.out.2.2.2.1
      have HAl := Lib.hid hAl
      have HAI : Hid (∀ x ∈ A, ∃ (i : Nat) (h : i < l.length), x = ⟨l[i], (i : Int) + 1, .int .i64 i⟩) := Lib.hid (fun x hx => by
        rw [← HA.out] at hx
        obtain ⟨i, h1, _, h2⟩ := HAD.out.2.2.2.2 x hx
        exact ⟨i, h1, h2⟩)
      have HUP : Hid (A.Pairwise Du.lt) := Lib.hid (by rw [← HA.out]; exact HO.out.up)
      have HAO : Hid (∀ x ∈ A, x.v.oneCell' = true) := Lib.hid (by rw [← HA.out]; exact HO.out.one)
      clear hv3 hp3 hx3 hb3 hal hSx hAl
      go_wp2_with fail
      go_loopw [11, 12] (fun d i wq => ∃ (k : Nat) (U : Value) (t : Wl) (dl : List Du), i = .int .i64 k ∧ k ≤ r.length ∧ Sx B C U v3 d t A dl wq ∧ t.ok ∧ (∀ x ∈ t.l, x.at' ≤ 1125899906842624) ∧ dl ++ t.l = A ∧ Below B w wq) (fun _ i _ => r.length - (intOf i).toNat)
      case atStart => exact ⟨0, U, s, [], rfl, Nat.zero_le _, HSx.out, HO.out, HAT.out, HA.out, B3.out⟩
      case round =>
        obtain ⟨k, U2, t, dl, rfl, hk2, hsx, ht, hta, hda, hb⟩ := hrel
        have HS := Lib.hid hsx
        have HT := Lib.hid ht
        have HTA := Lib.hid hta
        have HDA := Lib.hid hda
        have Bq := Lib.hid hb
        have sq := hb.size
        rw [HBQ.out] at sq
        obtain ⟨D, dc, rfl, _, _⟩ := (Rd.of_own hsx.d).form
        have hlen : dl.length + t.l.length ≤ 60 := by
          have h9 := congrArg List.length hda
          rw [List.length_append] at h9
          have := HAl.out
          omega
        clear hsx ht hta hda
        by_cases hlt : k < r.length
        · obtain ⟨b, o, rfl, c0⟩ := (HR'.out.below (by rw [HBQ.out]; exact hb)).at k hlt
          generalize r[k] = x at *
          clear hb
          go_wp2_with fail
          refine (adv_dui C B U2 t x _ HS.out.b HT.out).mono ?_
          rintro e w5 ⟨v5, rfl, hv5, hp5⟩
          obtain ⟨U5, hx5, hb5⟩ := HS.out.adv hp5
          have HS5 := Lib.hid hx5
          have HV5 := Lib.hid (Rd.of_own hv5)
          have B5 := Lib.hid (Bq.out.trans hb5)
          have s5 := Nat.le_trans sq hb5.size
          have hol : (t.out x).length ≤ t.l.length := by unfold Wl.out; rw [List.length_take]; omega
          have h1o := one_du (l := t.out x) (fun y hy => HT.out.one y (List.mem_of_mem_take hy))
          clear hx5 hp5 hb5 hv5 c0
          go_wp2_with (at_builtin; refine wpList_appAt rfl (.tmp 86) (.tmp 92) 30 rfl info_dui Try.underlying30 rfl (by decide) HS5.out.d HV5.out rfl rfl h1o (by omega) s5 ?_; intro v6 w6 ho6 hg6 hb6)
          obtain ⟨h7, h8⟩ := HS5.out.app ho6 (el := t.out x) (by rw [List.flatMap_append]) rfl hg6 hb6
          have HS7 := Lib.hid h7
          have B7 := Lib.hid (B5.out.trans h8)
          clear h7 h8 ho6 hg6 hb6
          go_wp2_with fail
          go_roundw
          case rel => exact ⟨k + 1, U5, t.goes x, dl ++ t.out x, by go_num, by omega, HS7.out, goes_ok HT.out x, fun y hy => HTA.out y (List.mem_of_mem_drop hy), by rw [List.append_assoc, out_goes]; exact HDA.out, B7.out⟩
          case measure => simp [intOf]; omega
        · clear hb
          go_wp2_with fail
          refine (adv_dui C B U2 t 1125899906842624 _ HS.out.b HT.out).mono ?_
          rintro e w5 ⟨v5, rfl, hv5, hp5⟩
          obtain ⟨U5, hx5, hb5⟩ := HS.out.adv hp5
          have hal := (all_out HT.out HTA.out).1
          rw [hal] at hv5
          have HS5 := Lib.hid hx5
          have HV5 := Lib.hid (Rd.of_own hv5)
          have B5 := Lib.hid (Bq.out.trans hb5)
          have s5 := Nat.le_trans sq hb5.size
          have h1o := one_du (l := t.l) HT.out.one
          clear hx5 hp5 hb5 hv5 hal
          go_wp2_with (at_builtin; refine wpList_appAt rfl (.tmp 94) (.tmp 96) 30 rfl info_dui Try.underlying30 rfl (by decide) HS5.out.d HV5.out rfl rfl h1o (by omega) s5 ?_; intro v6 w6 ho6 hg6 hb6; (obtain ⟨h7, h8⟩ := HS5.out.app ho6 (el := t.l) (by rw [List.flatMap_append]) rfl hg6 hb6); rw [HDA.out] at h7; have HS7 := Lib.hid h7; have B7 := Lib.hid (B5.out.trans h8); (obtain ⟨a6, c6, rfl, _, _⟩ := (Rd.of_own h7.d).form); (obtain ⟨a3, c3, rfl, _, _⟩ := (Rd.of_own h7.va).form); have hAb : ((A.length : Int) != (l.length : Int)) = false := (by simp [HAl.out]); clear h7 h8 ho6 hg6 hb6)
          have s7 := B7.out.size
          rw [HBQ.out] at s7
          go_loopw [13] (fun i wz => ∃ (j : Nat), i = .int .i64 j ∧ j ≤ A.length ∧ Sx B C U5 (.slice a3 A.length c3) (.slice a6 A.length c6) (t.goes 1125899906842624) A A wz ∧ Below B w wz) (fun i _ => A.length - (intOf i).toNat)
          case atStart => exact ⟨0, rfl, Nat.zero_le _, HS7.out, B7.out⟩
          case round =>
            obtain ⟨j, rfl, hj0, hsz, hbz⟩ := hrel
            have HSz := Lib.hid hsz
            have Bz := Lib.hid hbz
            have sz := hbz.size
            rw [HBQ.out] at sz
            clear hsz hbz
            by_cases hj : j < A.length
            · have hji : (j : Int) < A.length := by omega
              rcases Nat.eq_zero_or_pos j with rfl | hjp
              · obtain ⟨ga, oa, rfl, hga, cwa⟩ := Rd.row rowDu (by decide) (Rd.of_own HSz.out.va) 0 hj
                obtain ⟨gb, ob, rfl, hgb, cwb⟩ := Rd.row rowDu (by decide) (Rd.of_own HSz.out.d) 0 hj
                obtain ⟨ix, hix, hxe⟩ := HAI.out A[0] (List.getElem_mem hj)
                obtain ⟨bl, ol, rfl, cl⟩ := (HR.out.below (by rw [HBQ.out]; exact Bz.out)).at ix hix
                have hil : (ix : Int) < l.length := by omega
                have hwr : IntKind.i64.wrap ((ix : Int) + 1) = (ix : Int) + 1 := by rw [IntKind.wrap_i64]; omega
                rw [hxe] at cwa cwb
                generalize l[ix] = y at *
                have c0 := cwa 0 (.int .i64 y) rfl
                have c1 := cwa 1 (.int .i64 ((ix : Int) + 1)) rfl
                have c2 := cwa 2 (.int .i64 (ix : Int)) rfl
                have d0 := cwb 0 (.int .i64 y) rfl
                have d1 := cwb 1 (.int .i64 ((ix : Int) + 1)) rfl
                have d2 := cwb 2 (.int .i64 (ix : Int)) rfl
                rw [Nat.zero_mul, Nat.add_zero] at c0 c1 c2 d0 d1 d2
                clear cwa cwb hxe
                clear HR HR' HX HO HAD HAT HBk HS HT HTA HDA HSx HAI HUP HAO HS5 HV5 B5 HB2 HX2 B3 Bq HA HAl HS7 B7 h1o
                as_aux_lemma =>
                go_wp2_with fail
                refine wp_region_quiet_lit (by kernel_rfl) (by kernel_rfl) ?_
                try simp only [List.append]
                repeat (first | go_big_quiet_step (fail) | quiet_step (fail))
                refine wpQuiet_nil ?_
                intro W hW
                have hkW := kept_ex hW
                have HS9 := Lib.hid (HSz.out.kept hkW)
                have B9 := Lib.hid (Bz.out.trans (hkW.below.mono sz))
                clear hkW hW
                go_wp2_with fail
                go_roundw
                case rel => exact ⟨1, rfl, by omega, HS9.out, B9.out⟩
                case measure => simp [intOf] <;> omega
              · obtain ⟨j, rfl⟩ : ∃ m, j = m + 1 := ⟨j - 1, by omega⟩
                obtain ⟨ga, oa, rfl, hga, cwa⟩ := Rd.row rowDu (by decide) (Rd.of_own HSz.out.va) (j + 1) hj
                obtain ⟨gb, ob, rfl, hgb, cwb⟩ := Rd.row rowDu (by decide) (Rd.of_own HSz.out.d) (j + 1) hj
                obtain ⟨ix, hix, hxe⟩ := HAI.out A[(j + 1)] (List.getElem_mem hj)
                obtain ⟨bl, ol, rfl, cl⟩ := (HR.out.below (by rw [HBQ.out]; exact Bz.out)).at ix hix
                have hil : (ix : Int) < l.length := by omega
                have hwr : IntKind.i64.wrap ((ix : Int) + 1) = (ix : Int) + 1 := by rw [IntKind.wrap_i64]; omega
                obtain ⟨iy, hiy, hye⟩ := HAI.out A[j] (List.getElem_mem (by omega))
                obtain ⟨_, _, he1, _, cwp⟩ := Rd.row rowDu (by decide) (Rd.of_own HSz.out.va) j (by omega)
                cases he1
                have hlt := List.pairwise_iff_getElem.1 HUP.out j (j + 1) (by omega) hj (by omega)
                rw [hxe, hye] at hlt
                rw [hxe] at cwa cwb
                rw [hye] at cwp
                have hki : ((j : Int) + 1 - 1) = (j : Int) := by omega
                have hkw : IntKind.i64.wrap ((j : Int) + 1 - 1) = (j : Int) := by rw [IntKind.wrap_i64]; omega
                have hkc : (((j + 1 : Nat) : Int) - 1) = (j : Int) := by omega
                have hkx : IntKind.i64.wrap (((j + 1 : Nat) : Int) - 1) = (j : Int) := by rw [IntKind.wrap_i64]; omega
                have hk0 : decide ((0 : Int) < (j : Int) + 1) = true := decide_eq_true (by omega)
                have hk1 : decide ((0 : Int) < ((j + 1 : Nat) : Int)) = true := decide_eq_true (by omega)
                have hjm : (j : Int) < A.length := by omega
                have hlt : l[iy] < l[ix] ∨ (l[iy] = l[ix] ∧ (iy : Int) < ix) := by
                  rcases hlt with h9 | ⟨h9, h10⟩
                  · exact .inl h9
                  · exact .inr ⟨h9, by have h10 : (iy : Int) + 1 < (ix : Int) + 1 := h10; omega⟩
                generalize l[ix] = y at *
                generalize l[iy] = z at *
                have c0 := cwa 0 (.int .i64 y) rfl
                have c1 := cwa 1 (.int .i64 ((ix : Int) + 1)) rfl
                have c2 := cwa 2 (.int .i64 (ix : Int)) rfl
                have d0 := cwb 0 (.int .i64 y) rfl
                have d1 := cwb 1 (.int .i64 ((ix : Int) + 1)) rfl
                have d2 := cwb 2 (.int .i64 (ix : Int)) rfl
                have p0 := cwp 0 (.int .i64 z) rfl
                have p1 := cwp 1 (.int .i64 ((iy : Int) + 1)) rfl
                rw [Nat.add_zero] at c0 d0 p0
                clear cwa cwb cwp hxe hye
                rcases hlt with h9 | ⟨h9, h10⟩
                · have e1 : decide (y < z) = false := decide_eq_false (by omega)
                  have e2 : (y == z) = false := beq_eq_false_iff_ne.2 (by omega)
                  clear h9
                  clear HR HR' HX HO HAD HAT HBk HS HT HTA HDA HSx HAI HUP HAO HS5 HV5 B5 HB2 HX2 B3 Bq HA HAl HS7 B7 h1o
                  as_aux_lemma =>
                  go_wp2_with fail
                  refine wp_region_quiet_lit (by kernel_rfl) (by kernel_rfl) ?_
                  try simp only [List.append]
                  repeat (first | go_big_quiet_step (fail) | quiet_step (fail))
                  refine wpQuiet_nil ?_
                  intro W hW
                  have hkW := kept_ex hW
                  have HS9 := Lib.hid (HSz.out.kept hkW)
                  have B9 := Lib.hid (Bz.out.trans (hkW.below.mono sz))
                  clear hkW hW
                  go_wp2_with fail
                  go_roundw
                  case rel => exact ⟨j + 2, by go_num, by omega, HS9.out, B9.out⟩
                  case measure => simp [intOf] <;> omega
                · have e1 : decide (y < z) = false := decide_eq_false (by omega)
                  have e2 : (y == z) = true := beq_iff_eq.2 h9.symm
                  have e3 : decide ((ix : Int) + 1 ≤ (iy : Int) + 1) = false := decide_eq_false (by omega)
                  have e4 : decide ((ix : Int) ≤ (iy : Int)) = false := decide_eq_false (by omega)
                  clear h9
                  clear HR HR' HX HO HAD HAT HBk HS HT HTA HDA HSx HAI HUP HAO HS5 HV5 B5 HB2 HX2 B3 Bq HA HAl HS7 B7 h1o
                  as_aux_lemma =>
                  go_wp2_with fail
                  refine wp_region_quiet_lit (by kernel_rfl) (by kernel_rfl) ?_
                  try simp only [List.append]
                  repeat (first | go_big_quiet_step (fail) | quiet_step (fail))
                  refine wpQuiet_nil ?_
                  intro W hW
                  have hkW := kept_ex hW
                  have HS9 := Lib.hid (HSz.out.kept hkW)
                  have B9 := Lib.hid (Bz.out.trans (hkW.below.mono sz))
                  clear hkW hW
                  go_wp2_with fail
                  go_roundw
                  case rel => exact ⟨j + 2, by go_num, by omega, HS9.out, B9.out⟩
                  case measure => simp [intOf] <;> omega
            · go_wp2_with fail
              go_wp2_with fail
              refine (awake_any _).mono ?_
              rintro e w7 ⟨rfl, hb7⟩
              go_wp2_with fail
              go_ret
              refine ⟨rfl, ?_⟩
              rw [HBQ.out]
              exact Bz.out.trans (hb7.mono sz)
set_option maxRecDepth 100000 in
theorem steps_any (l r : List Int) (v u : Value) (w : World) (h : Rd w 1 v l.length (l.map (Value.int .i64))) (h' : Rd w 1 u r.length (r.map (Value.int .i64))) : Calls Try.prog 3 #[v, u] w (TrueBelow w) := by
  by_cases hc : l.length ≤ 60 ∧ r.length ≤ 30
  · exact steps_in l r v u w h h' hc.1 hc.2
  · have hc2 : 60 < l.length ∨ (l.length ≤ 60 ∧ 30 < r.length) := by omega
    obtain ⟨v, cp, rfl, h1, h2⟩ := h.form
    obtain ⟨u, cq, rfl, h3, h4⟩ := h'.form
    clear h h' hc
    rcases hc2 with h | ⟨h, h5⟩
    all_goals
      go_enter Try.func3, Try.ntmps3
      go_wp2_with fail
      refine (awake_any _).mono ?_
      rintro e w2 ⟨rfl, hb⟩
      go_wp2_with fail
      go_ret
      exact ⟨rfl, hb⟩
end Go.Proofs.Ytlibnjhoggfhfaa
