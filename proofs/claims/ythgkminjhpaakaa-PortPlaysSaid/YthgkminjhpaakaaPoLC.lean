/- PortCredits: the plain law of a tick, and the walk. -/
import Derived.Test.YthgkminjhpaakaaPoW
import Derived.Test.YthgkminjhpaakaaPoK
import Derived.Test.YthgkminjhpaakaaFrame
namespace Go.Proofs.Ythgkminjhpaakaa
open Go.RowKit

theorem sz_head {x : It} (h : x.kind ≠ 1) : x.sz = 26 := by
  unfold It.sz It.bytes
  rw [if_neg h]
  rfl
def it0 : It := ⟨0, 0, 0, 0, 0, 0, 0, 0, 0, none, 0, 0, 0, []⟩
theorem box_it0 : noBox = boxV it0 := rfl
def crd (j : Int) : It := ⟨11, 0, 1, 0, 0, 0, 0, 0, j, none, 0, 0, 0, []⟩
def ack7 : It := ⟨5, 0, 1, 7, 0, 0, 0, 0, 0, none, 0, 0, 0, []⟩
structure Jc (hv now gone acks : Nat) (p : Pp) : Prop where
  g : gone = min hv ((now + 3) / 4)
  len : p.C.length = hv - gone
  nums : ∀ j y, p.C[j]? = some y → y.kind = 11 ∧ y.num = ((gone + j : Nat) : Int)
  pn : 0 ≤ p.now ∧ p.now ≤ now
  e : p.pc.e = 4
  n : 0 ≤ p.pc.n ∧ p.pc.n ≤ now
  x : p.pc.x = 4 * gone
  q : (acks = 0 ∧ now ≤ 1 ∧ (∃ y, p.L = upd (fun _ => []) 7 [y] ∧ y.kind = 5) ∧ p.u = 26) ∨ (acks = 1 ∧ (∀ i, i < 8 → p.L i = []) ∧ p.u = 0)
def Nums (g : Nat) (C : List It) : Prop := ∀ j y, C[j]? = some y → y.kind = 11 ∧ y.num = ((g + j : Nat) : Int)
theorem Nums.app {C : List It} (h : Nums 0 C) {y : It} (hk : y.kind = 11) (hn : y.num = C.length) : Nums 0 (C ++ [y]) := by
  intro j z hj
  rw [List.getElem?_append] at hj
  split at hj
  · exact h j z hj
  · have hjk : j = C.length := by
      rcases Nat.lt_or_ge (j - C.length) 1 with h | h
      · omega
      · rw [List.getElem?_eq_none (by simpa using h)] at hj; cases hj
    subst hjk
    rw [Nat.sub_self] at hj
    cases hj
    exact ⟨hk, by rw [hn, Nat.zero_add]⟩
theorem tick_now {n : Int} {now : Nat} (h : n ≤ now) (h2 : now ≤ 100000) : tick n now = now := by unfold tick; omega
theorem go_yes {s : Pc} {now : Nat} (h : s.n ≤ now) (h2 : now ≤ 100000) (hd : s.due now = true) : s.go now = ⟨s.e, now, now, true⟩ := by
  unfold Pc.go
  rw [if_pos hd, tick_now h h2]
theorem go_no {s : Pc} {now : Nat} (h : s.n ≤ now) (h2 : now ≤ 100000) (hd : s.due now = false) : s.go now = ⟨s.e, now, s.l, s.v⟩ := by
  unfold Pc.go
  rw [if_neg (by simp [hd]), tick_now h h2]
/-- a tick that gives no credit -/
theorem Jc.line {hv now gone acks : Nat} {p p1 : Pp} (hJ : Jc hv now gone acks p) (hg : gone = min hv ((now + 1 + 3) / 4)) (h1 : p1.C = p.C) (h2 : p1.now = now) (h3 : p1.pc.e = 4) (h4 : 0 ≤ p1.pc.n ∧ p1.pc.n ≤ now) (h5 : p1.pc.x = p.pc.x) (h6 : p1.L = p.L) (h7 : p1.u = p.u) {b B0 : Nat} {l : Pl} {w : World} {e : Ending} {w' : World} (ht : TakeQ b B0 l p1 w e w') : ∃ x ok p', e = .returned (.tuple #[boxV x, .bool ok]) ∧ PoPost b B0 l p' w w' ∧ ((ok = true ∧ x.kind = 5 ∧ acks = 0 ∧ Jc hv (now + 1) gone 1 p') ∨ (ok = false ∧ acks = 1 ∧ Jc hv (now + 1) gone 1 p')) := by
  rcases ht with ⟨he, hnone, hp⟩ | ⟨i, x, r, hi, hL, hab, he, hp⟩
  · refine ⟨it0, false, p1, he, hp, .inr ⟨rfl, ?_, ?_⟩⟩
    · rcases hJ.q with ⟨_, _, ⟨y, hy, _⟩, _⟩ | ⟨h, _⟩
      · have := hnone 7 (by decide)
        rw [h6, hy, upd_same] at this
        cases this
      · exact h
    · refine ⟨hg, by rw [h1]; exact hJ.len, by rw [h1]; exact hJ.nums, by rw [h2]; omega, h3, by omega, by rw [h5]; exact hJ.x, .inr ⟨rfl, hnone, ?_⟩⟩
      rcases hJ.q with ⟨_, _, ⟨y, hy, _⟩, _⟩ | ⟨_, _, h⟩
      · have := hnone 7 (by decide)
        rw [h6, hy, upd_same] at this
        cases this
      · rw [h7]; exact h
  · rcases hJ.q with ⟨ha, hn1, ⟨y, hy, hyk⟩, hu⟩ | ⟨_, h, _⟩
    · have hi7 : i = 7 := by
        rcases Nat.decEq i 7 with h | h
        · rw [h6, hy, upd_other _ _ h] at hL
          cases hL
        · exact h
      subst hi7
      rw [h6, hy, upd_same] at hL
      injection hL with hx hr
      subst hx
      subst hr
      refine ⟨y, true, _, he, hp, .inl ⟨rfl, hyk, ha, hg, by rw [h1]; exact hJ.len, by rw [h1]; exact hJ.nums, by show 0 ≤ p1.now ∧ p1.now ≤ _; rw [h2]; omega, h3, by show 0 ≤ p1.pc.n ∧ p1.pc.n ≤ _; omega, by show p1.pc.x = _; rw [h5]; exact hJ.x, .inr ⟨rfl, fun j hj => ?_, ?_⟩⟩⟩
      · show upd p1.L 7 [] j = []
        by_cases hj7 : j = 7
        · subst hj7; rw [upd_same]
        · rw [upd_other _ _ hj7, h6, hy, upd_other _ _ hj7]
      · show p1.u - y.sz = 0
        rw [h7, hu, sz_head (by rw [hyk]; decide)]
        rfl
    · rw [h6, h i hi] at hL
      cases hL
theorem takeJ (b B0 : Nat) (l : Pl) (p : Pp) (hv now gone acks : Nat) (w : World) (h : Po b B0 l p w) (hJ : Jc hv now gone acks p) (hh : hv ≤ 30) (hnow : now ≤ 200) : Calls Try.prog 11 #[.pointer (some ⟨b, 0, none⟩), .int .i64 now] w fun e w' => ∃ x ok p', e = .returned (.tuple #[boxV x, .bool ok]) ∧ PoPost b B0 l p' w w' ∧ ((ok = true ∧ x.kind = 11 ∧ now % 4 = 0 ∧ x.num = gone ∧ Jc hv (now + 1) (gone + 1) acks p') ∨ (ok = true ∧ x.kind = 5 ∧ acks = 0 ∧ Jc hv (now + 1) gone 1 p') ∨ (ok = false ∧ acks = 1 ∧ Jc hv (now + 1) gone 1 p')) := by
  have ht : max p.now (now : Int) = now := by have := hJ.pn; omega
  have hg := hJ.g
  have hlen := hJ.len
  have hu : ∀ i x r, i < 8 → p.L i = x :: r → x.sz ≤ p.u := fun i x r hi hL => by
    rcases hJ.q with ⟨ha, hn1, ⟨y, hy, hyk⟩, hu⟩ | ⟨_, h, _⟩
    · by_cases h : i = 7
      · subst h
        rw [hy, upd_same] at hL
        injection hL with hx _
        subst hx
        rw [hu, sz_head (by rw [hyk]; decide)]
        decide
      · rw [hy, upd_other _ _ h] at hL
        cases hL
    · rw [h i hi] at hL; cases hL
  have hu2 : p.u ≤ 1099511627776 := by
    rcases hJ.q with ⟨_, _, _, h⟩ | ⟨_, _, h⟩
    · omega
    · omega
  have hdue : p.pc.due now = decide (4 * gone ≤ now) := by
    unfold Pc.due
    rw [hJ.x, tick_now hJ.n.2 (by omega)]
    simp only [decide_eq_decide]
    omega
  rcases Nat.eq_zero_or_pos p.C.length with hC | hC
  · refine (take_q0 b B0 l p now now w h hC ht hu hu2).mono ?_
    intro e w' hq
    obtain ⟨x, ok, p', h1, h2, h3⟩ := hJ.line (p1 := { p with now := now }) (by omega) rfl rfl hJ.e ⟨hJ.n.1, hJ.n.2⟩ rfl rfl rfl hq
    exact ⟨x, ok, p', h1, h2, .inr h3⟩
  · by_cases hd : 4 * gone ≤ now
    · obtain ⟨x, r, hxr⟩ : ∃ x r, p.C = x :: r := List.exists_cons_of_ne_nil (by intro hh; rw [hh] at hC; cases hC)
      have hdd : p.pc.due now = true := by rw [hdue]; exact decide_eq_true hd
      have hm : now % 4 = 0 := by omega
      obtain ⟨hk, hn⟩ := hJ.nums 0 x (by rw [hxr]; rfl)
      refine (take_cred b B0 l p x r now now w h hxr ht hdd (by omega)).mono ?_
      rintro e w' ⟨rfl, hp⟩
      rw [go_yes hJ.n.2 (by omega) hdd] at hp
      refine ⟨x, true, _, rfl, hp, .inl ⟨rfl, hk, hm, by rw [hn]; simp, ?_, ?_, fun j y hj => ?_, ?_, hJ.e, ?_, ?_, ?_⟩⟩
      · omega
      · show r.length = _
        rw [hxr] at hlen
        rw [List.length_cons] at hlen
        omega
      · have := hJ.nums (j + 1) y (by rw [hxr]; exact hj)
        refine ⟨this.1, ?_⟩
        rw [this.2]
        push_cast
        omega
      · show 0 ≤ (now : Int) ∧ (now : Int) ≤ _
        omega
      · show 0 ≤ (now : Int) ∧ (now : Int) ≤ _
        omega
      · show Pc.x ⟨p.pc.e, now, now, true⟩ = _
        unfold Pc.x
        rw [if_pos rfl]
        show (now : Int) + p.pc.e = _
        rw [hJ.e]
        push_cast
        omega
      · rcases hJ.q with ⟨ha, hn1, hy, hu⟩ | h
        · exact .inl ⟨ha, by omega, hy, hu⟩
        · exact .inr h
    · have hdd : p.pc.due now = false := by rw [hdue]; exact decide_eq_false hd
      refine (take_q1 b B0 l p now now w h hC hdd ht hu hu2).mono ?_
      intro e w' hq
      have hgo := go_no hJ.n.2 (by omega) hdd
      obtain ⟨x, ok, p', h1, h2, h3⟩ := hJ.line (p1 := { p with now := now, pc := p.pc.go now }) (by omega) rfl rfl (by rw [hgo]; exact hJ.e) (by rw [hgo]; show 0 ≤ (now : Int) ∧ (now : Int) ≤ now; omega) (by rw [hgo]; rfl) rfl rfl hq
      exact ⟨x, ok, p', h1, h2, .inr h3⟩
set_option maxRecDepth 100000 in
set_option maxHeartbeats 4000000 in
theorem credits_law (most n ticks : Int) (w : World) : Calls Try.prog 3 #[.int .i64 most, .int .i64 n, .int .i64 ticks] w (TrueBelow w) := by
  by_cases hr : 0 ≤ most ∧ most ≤ 30 ∧ 0 ≤ n ∧ n ≤ 60 ∧ 0 ≤ ticks ∧ ticks ≤ 200
  case neg =>
    have hc : most < 0 ∨ (0 ≤ most ∧ 30 < most) ∨ (0 ≤ most ∧ most ≤ 30 ∧ n < 0) ∨ (0 ≤ most ∧ most ≤ 30 ∧ 0 ≤ n ∧ 60 < n) ∨ (0 ≤ most ∧ most ≤ 30 ∧ 0 ≤ n ∧ n ≤ 60 ∧ ticks < 0) ∨ (0 ≤ most ∧ most ≤ 30 ∧ 0 ≤ n ∧ n ≤ 60 ∧ 0 ≤ ticks ∧ 200 < ticks) := by omega
    clear hr
    rcases hc with h1 | ⟨h1, h2⟩ | ⟨h1, h2, h3⟩ | ⟨h1, h2, h3, h4⟩ | ⟨h1, h2, h3, h4, h5⟩ | ⟨h1, h2, h3, h4, h5, h6⟩
    all_goals
      go_enter Try.func3, Try.ntmps3
      go_wp2_with fail
      refine (awake_w _).mono ?_
      rintro e w6 ⟨rfl, hb6⟩
      go_wp2_with fail
      go_ret
      exact ⟨rfl, hb6⟩
  case pos =>
    obtain ⟨hm0, hm1, hn0, hn1, ht0, ht1⟩ := hr
    obtain ⟨M, rfl⟩ := Int.eq_ofNat_of_zero_le hm0
    obtain ⟨N, rfl⟩ := Int.eq_ofNat_of_zero_le hn0
    obtain ⟨T, rfl⟩ := Int.eq_ofNat_of_zero_le ht0
    go_enter Try.func3, Try.ntmps3
    go_wp2_with fail
    refine (new_pt 52 M true w (by omega) (by omega)).mono ?_
    rintro e w1 ⟨b, l1, rfl, hp1, hb1⟩
    have P1 := Lib.hid hp1
    have B1 := Lib.hid hb1
    clear hp1 hb1
    go_wp2_with fail
    go_loopw [9, 10] (fun i _ wr => ∃ (k : Nat) (l : Pl) (C : List It), k ≤ N ∧ i = .int .i64 k ∧ Po b w.heap.size l { newP 52 M true with C := C } wr ∧ C.length = min k M ∧ Nums 0 C ∧ Below w.heap.size w wr) (fun i _ _ => N - (intOf i).toNat)
    case atStart => exact ⟨0, l1, [], by omega, rfl, P1.out, by simp, fun j y hj => by simp at hj, B1.out⟩
    case round =>
      obtain ⟨k, l, C, hk, rfl, hp, hCl, hCn, hb⟩ := hrel
      have P2 := Lib.hid hp
      have HCL := Lib.hid hCl
      have HCN := Lib.hid hCn
      have B2 := Lib.hid hb
      clear hp hCl hCn hb
      rename World => wi
      by_cases hlt : k < N
      · by_cases hm : M ≤ k
        · go_wp2_with fail
          refine (put_cfull b w.heap.size l _ (crd k) _ P2.out rfl (decide_eq_true (show (M : Int) ≤ (C.length : Int) by have := HCL.out; omega))).mono ?_
          rintro e w3 ⟨rfl, hb3⟩
          have P3 := Lib.hid (P2.out.below hb3)
          have B3 := Lib.hid (B2.out.trans (hb3.mono B2.out.size))
          clear hb3
          go_wp2_with fail
          go_roundw
          case rel => exact ⟨k + 1, l, C, by omega, by go_num, P3.out, by have := HCL.out; omega, HCN.out, B3.out⟩
          case measure => simp [intOf]; omega
        · go_wp2_with fail
          refine (put_cred b w.heap.size l _ (crd k) _ P2.out (Rd.nil _ _) (show (0 : Nat) ≤ 1073741824 by decide) rfl (decide_eq_false (show ¬ (M : Int) ≤ (C.length : Int) by have := HCL.out; omega)) (show C.length ≤ 1000000 by have := HCL.out; omega)).mono ?_
          rintro e w3 ⟨rfl, a3, c3, l3, hp3, hk3, hf3⟩
          have P3 := Lib.hid hp3
          have B3 := Lib.hid (B2.out.trans (hk3.belowAt B2.out.size fun y hy => P2.out.ge hy))
          clear hp3 hk3 hf3
          go_wp2_with fail
          go_roundw
          case rel =>
            refine ⟨k + 1, l3, C ++ [(crd k).data a3 c3], by omega, by go_num, P3.out, by have := HCL.out; rw [List.length_append, List.length_singleton]; omega, HCN.out.app rfl (by show (k : Int) = _; have := HCL.out; omega), B3.out⟩
          case measure => simp [intOf]; omega
      · obtain rfl : k = N := by omega
        go_wp2_with fail
        refine (put_line b w.heap.size l _ 7 ack7 _ P2.out (Rd.nil _ _) (show (0 : Nat) ≤ 1073741824 by decide) rfl (by decide) (by decide) rfl (show (0 : Int) ≤ 52 ∧ (52 : Int) ≤ 1099511627776 by decide) (show (0 : Int) ≤ 0 ∧ (0 : Int) ≤ 52 by decide) (show ack7.sz ≤ (52 : Int) - 0 by decide) (show (0 : Nat) ≤ 1000000 by decide)).mono ?_
        rintro e w3 ⟨rfl, a3, c3, l3, hp3, hk3, hf3⟩
        have P3 := Lib.hid hp3
        have B3 := Lib.hid (B2.out.trans (hk3.belowAt B2.out.size fun y hy => P2.out.ge hy))
        have J3 : Hid (Jc (min k M) 0 0 0 { newP 52 M true with C := C, u := 0 + ack7.sz, L := upd (fun _ => []) 7 ([] ++ [ack7.data a3 c3]) }) := Lib.hid ⟨by omega, by show C.length = _; have := HCL.out; omega, HCN.out, by show (0 : Int) ≤ 0 ∧ (0 : Int) ≤ 0; decide, rfl, by show (0 : Int) ≤ 0 ∧ (0 : Int) ≤ 0; decide, rfl, .inl ⟨rfl, by decide, ⟨ack7.data a3 c3, rfl, rfl⟩, rfl⟩⟩
        clear hp3 hk3 hf3
        go_wp2_with fail
        go_loopw [13, 14, 15, 16, 17] (fun g a nw _ _ wr => ∃ (now gone acks : Nat) (l : Pl) (p : Pp), now ≤ T ∧ g = .int .i64 gone ∧ a = .int .i64 acks ∧ nw = .int .i64 now ∧ Po b w.heap.size l p wr ∧ Jc (min k M) now gone acks p ∧ Below w.heap.size w wr) (fun _ _ nw _ _ _ => T - (intOf nw).toNat)
        case atStart => exact ⟨0, 0, 0, l3, _, by omega, rfl, rfl, rfl, P3.out, J3.out, B3.out⟩
        case round =>
          obtain ⟨now, gone, acks, l4, p4, hnT, rfl, rfl, rfl, hp4, hJ4, hb4⟩ := hrel
          have P4 := Lib.hid hp4
          have J4 := Lib.hid hJ4
          have B4 := Lib.hid hb4
          clear hp4 hJ4 hb4
          rename World => wj
          have hg30 : gone ≤ 30 := by have := J4.out.g; omega
          by_cases hlt2 : now < T
          · go_wp2_with fail
            refine (takeJ b w.heap.size l4 p4 (min k M) now gone acks _ P4.out J4.out (by omega) (by omega)).mono ?_
            rintro e w5 ⟨x, ok, p5, rfl, ⟨l5, hp5, hk5, hf5⟩, hcs⟩
            have P5 := Lib.hid hp5
            have B5 := Lib.hid (B4.out.trans (hk5.belowAt B4.out.size fun y hy => P4.out.ge hy))
            clear hp5 hk5 hf5
            unfold boxV
            rcases hcs with ⟨rfl, hxk, hm4, hxn, hJ5⟩ | ⟨rfl, hxk, ha, hJ5⟩ | ⟨rfl, ha, hJ5⟩
            · have J5 := Lib.hid hJ5
              clear hJ5
              go_wp2_with fail
              go_roundw
              case rel => exact ⟨now + 1, gone + 1, acks, l5, p5, by omega, by go_num, by go_num, by go_num, P5.out.below ((Below.refl _ _).alloc (Nat.le_refl _) _), J5.out, B5.out.alloc B5.out.size _⟩
              case measure => simp [intOf]; omega
            · have J5 := Lib.hid hJ5
              clear hJ5
              go_wp2_with fail
              go_roundw
              case rel => exact ⟨now + 1, gone, 1, l5, p5, by omega, by go_num, by go_num, by go_num, P5.out.below ((Below.refl _ _).alloc (Nat.le_refl _) _), J5.out, B5.out.alloc B5.out.size _⟩
              case measure => simp [intOf]; omega
            · have J5 := Lib.hid hJ5
              clear hJ5
              go_wp2_with fail
              go_roundw
              case rel => exact ⟨now + 1, gone, 1, l5, p5, by omega, by go_num, by go_num, by go_num, P5.out.below ((Below.refl _ _).alloc (Nat.le_refl _) _), J5.out, B5.out.alloc B5.out.size _⟩
              case measure => simp [intOf]; omega
          · obtain rfl : now = T := by omega
            have hG : (gone : Int) = min (k : Int) (M : Int) - (min (k : Int) (M : Int) - min (k : Int) (min (M : Int) (((now : Int) + 3) / 4))) := by have := J4.out.g; omega
            have hL : (p4.C.length : Int) = min (k : Int) (M : Int) - min (k : Int) (min (M : Int) (((now : Int) + 3) / 4)) := by have := J4.out.g; have := J4.out.len; omega
            have HL := Lib.hid hL
            clear hL
            have hq : (acks = 0 ∧ now < 2) ∨ (acks = 1 ∧ now < 2) ∨ (acks = 1 ∧ 2 ≤ now) := by
              rcases J4.out.q with ⟨h1, h2, _⟩ | ⟨h1, _⟩
              · omega
              · omega
            rcases hq with ⟨rfl, h2⟩ | ⟨rfl, h2⟩ | ⟨rfl, h2⟩
            all_goals
              go_wp2_with fail
              refine (credits_pt b _ l4 p4 _ P4.out).mono ?_
              rintro e w6 ⟨rfl, rfl⟩
              rw [HL.out]
              go_wp2_with fail
              refine (awake_w _).mono ?_
              rintro e w7 ⟨rfl, hb7⟩
              have B7 := Lib.hid (B4.out.trans (hb7.mono B4.out.size))
              clear hb7
              go_wp2_with fail
              go_ret
              exact ⟨rfl, B7.out⟩
end Go.Proofs.Ythgkminjhpaakaa
