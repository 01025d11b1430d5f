/- The law IvalsOrder (chapter 5), walked. -/
import Derived.Test.YtafielokhkoadaaIvN
import Derived.Test.YtafielokhkoadaaAlike
import Derived.Deep.CutBlock
namespace Go.Proofs.Ytafielokhkoadaa
open Go.RowKit

/-- two sets side by side -/
structure X2 (B C : Nat) (V U : Value) (s t : Is) (w : World) : Prop where
  a : Iv B B V s w
  b : Iv C B U t w
  ap : ∀ x, WM B V x → ¬ WM C U x
theorem X2.first {B C : Nat} {V U : Value} {s t s' : Is} {w w' : World} (h : X2 B C V U s t w) (hp : IvPost B B V s' w w') : ∃ V', X2 B C V' U s' t w' ∧ Below B w w' := by
  obtain ⟨V', h1, h2, h3⟩ := hp
  refine ⟨V', ⟨h1, h.b.kept h2 (fun x hx hh => h.ap x hh hx), fun x hx hu => ?_⟩, h2.belowAt (Nat.le_of_lt h.a.ob.lt) (fun x hx => (h.a.lt x hx).1)⟩
  rcases h3 x hx with hh | hh
  · exact h.ap x hh hu
  · have := (h.b.lt x hu).2; omega
theorem X2.second {B C : Nat} {V U : Value} {s t t' : Is} {w w' : World} (h : X2 B C V U s t w) (hp : IvPost C B U t' w w') : ∃ U', X2 B C V U' s t' w' ∧ Below B w w' := by
  obtain ⟨U', h1, h2, h3⟩ := hp
  refine ⟨U', ⟨h.a.kept h2 (fun x hx hh => h.ap x hx hh), h1, fun x hx hu => ?_⟩, h2.belowAt (Nat.le_of_lt h.a.ob.lt) (fun x hx => (h.b.lt x hx).1)⟩
  rcases h3 x hu with hh | hh
  · exact h.ap x hx hh
  · have := (h.a.lt x hx).2; omega
theorem X2.keptF {B C : Nat} {V U : Value} {s t : Is} {w w' : World} (h : X2 B C V U s t w) (hk : Kept (fun _ => False) w w') : X2 B C V U s t w' := ⟨h.a.keptF hk, h.b.keptF hk, h.ap⟩
/-- what the ranges of a list are, so many of them, taken by an order -/
def In (tot : Int) (l : List Rg) (σ : Nat → Nat) (k : Nat) (x : Int) : Prop := ∃ j, j < k ∧ ∃ h : σ j < l.length, (0 ≤ (l[σ j]).f ∧ (l[σ j]).f ≤ (l[σ j]).t ∧ (l[σ j]).t ≤ tot) ∧ (l[σ j]).f ≤ x ∧ x < (l[σ j]).t
structure Has (tot : Int) (l : List Rg) (σ : Nat → Nat) (k : Nat) (s : Is) : Prop where
  ok : s.ok
  tt : s.tot = tot
  len : s.l.length ≤ k
  mem : ∀ x, mem s.l x ↔ In tot l σ k x
theorem has_zero {tot : Int} (l : List Rg) (σ : Nat → Nat) (h0 : 0 ≤ tot) (h1 : tot ≤ 1073741824) : Has tot l σ 0 ⟨tot, []⟩ :=
  ⟨new_ok h0 h1, rfl, Nat.le_refl _, fun x => ⟨fun h => h.elim, fun ⟨j, hj, _⟩ => by omega⟩⟩
theorem has_add {tot : Int} {l : List Rg} {σ : Nat → Nat} {k : Nat} {s : Is} (h : Has tot l σ k s) (hk : σ k < l.length) : Has tot l σ (k + 1) (s.add (l[σ k]).f (l[σ k]).t) := by
  refine ⟨add_ok h.ok _ _, (add_tot _ _ _).trans h.tt, Nat.le_trans (add_len _ _ _) (Nat.succ_le_succ h.len), fun x => ?_⟩
  rw [add_mem h.ok, h.mem]
  unfold Is.may
  rw [h.tt]
  constructor
  · rintro (⟨j, hj, r⟩ | ⟨h1, h2⟩)
    · exact ⟨j, by omega, r⟩
    · exact ⟨k, Nat.lt_succ_self _, hk, h1, h2⟩
  · rintro ⟨j, hj, hs, h1, h2⟩
    rcases Nat.lt_or_eq_of_le (Nat.le_of_lt_succ hj) with hj | rfl
    · exact .inl ⟨j, hj, hs, h1, h2⟩
    · exact .inr ⟨h1, h2⟩
theorem has_same {tot : Int} {l : List Rg} {σ : Nat → Nat} {s t : Is} (h : Has tot l id l.length s) (h' : Has tot l σ l.length t) (hon : ∀ m, m < l.length → ∃ j, j < l.length ∧ σ j = m) : s = t := by
  have e : s.l = t.l := asc_eq (n := tot) (by have := h.ok.asc; rwa [h.tt] at this) (by have := h'.ok.asc; rwa [h'.tt] at this) (fun x => by
    rw [h.mem, h'.mem]
    constructor
    · rintro ⟨j, hj, _, h1, h2⟩
      obtain ⟨i, hi, he⟩ := hon j hj
      exact ⟨i, hi, by rw [he]; exact hj, by simp only [he]; exact ⟨h1, h2⟩⟩
    · rintro ⟨j, _, hs, h1, h2⟩
      exact ⟨σ j, hs, hs, h1, h2⟩)
  have e2 : s.tot = t.tot := h.tt.trans h'.tt.symm
  cases s; cases t; simp only at e e2; subst e e2; rfl
theorem has_fresh {tot : Int} {l : List Rg} {s : Is} (h : Has tot l id l.length s) {i : Nat} (hi : i < l.length) : (s.ans l[i].f l[i].t).1 = 0 ∧ s.add l[i].f l[i].t = s := by
  by_cases hm : s.may l[i].f l[i].t
  · have hz : s.fr l[i].f l[i].t = 0 := (fresh_zero h.ok.asc hm.2.1).2 (fun x h1 h2 => (h.mem x).2 ⟨i, hi, hi, by have := hm; unfold Is.may at this; rw [h.tt] at this; exact this, h1, h2⟩)
    exact ⟨by unfold Is.ans; rw [if_pos hm]; exact hz, by unfold Is.add; rw [if_neg (fun hh => hh.2 hz)]⟩
  · exact ⟨by unfold Is.ans; rw [if_neg hm], by unfold Is.add; rw [if_neg (fun hh => hm hh.1)]⟩
/-- the turn of a list -/
def turn (n : Nat) (k : Int) (j : Nat) : Nat := (j + (k % (n : Int)).toNat) % n
theorem turn_lt {n : Nat} (k : Int) {j : Nat} (h : j < n) : turn n k j < n := Nat.mod_lt _ (by omega)
theorem turn_int {n : Nat} (k : Int) {j : Nat} (h : j < n) : ((j : Int) + k % (n : Int)) % (n : Int) = (turn n k j : Int) := by
  have h1 := Int.emod_nonneg k (show (n : Int) ≠ 0 by omega)
  unfold turn
  rw [Int.natCast_emod, Int.natCast_add, Int.toNat_of_nonneg h1]
theorem turn_on {n : Nat} (k : Int) (m : Nat) (h : m < n) : ∃ j, j < n ∧ turn n k j = m := by
  have h1 := Int.emod_nonneg k (show (n : Int) ≠ 0 by omega)
  have h2 := Int.emod_lt_of_pos k (show (0 : Int) < n by omega)
  obtain ⟨K, hK⟩ : ∃ K : Nat, K = (k % (n : Int)).toNat := ⟨_, rfl⟩
  have h3 : K < n := by omega
  unfold turn
  rw [← hK]
  rcases Nat.lt_or_ge m K with h4 | h4
  · refine ⟨m + n - K, by omega, ?_⟩
    rw [show m + n - K + K = m + n by omega, Nat.add_mod_right, Nat.mod_eq_of_lt h]
  · refine ⟨m - K, by omega, ?_⟩
    rw [show m - K + K = m by omega, Nat.mod_eq_of_lt h]
set_option maxRecDepth 100000 in
set_option maxHeartbeats 8000000 in
theorem order_in (tot : Int) (l : List Rg) (k0 : Int) (v : Value) (w : World) (h : Rd w 2 v l.length (l.flatMap Rg.row)) (t0 : 0 ≤ tot) (t1 : tot ≤ 100000) (hl : l.length ≤ 40) : Calls Try.prog 3 #[.int .i64 tot, v, .int .i64 k0] w (TrueBelow w) := by
  obtain ⟨v, cp, rfl, h1, h2⟩ := h.form
  have HR := Lib.hid h
  have hli : (l.length : Int) ≤ 40 := by omega
  clear h
  go_enter Try.func3, Try.ntmps3
  go_wp2_with fail
  refine (new_iv tot _ ⟨t0, by omega⟩).mono ?_
  rintro e w1 ⟨rfl, hw, hb⟩
  have HB := Lib.hid hb
  have HW := Lib.hid hw
  have s1 := hb.size
  have l1 := hw.ob.lt
  clear hw hb
  go_wp2_with fail
  refine (new_iv tot _ ⟨t0, by omega⟩).mono ?_
  rintro e w2 ⟨rfl, hw, hb⟩
  have HB2 := Lib.hid (HB.out.trans (hb.mono s1))
  generalize hC : w1.heap.size = C at *
  generalize hB : w.heap.size = B at *
  have HBQ := Lib.hid hB
  have HX2 : Hid (X2 B C (.slice none 0 0) (.slice none 0 0) ⟨tot, []⟩ ⟨tot, []⟩ w2) := Lib.hid ⟨HW.out.below (by rw [hC]; exact hb), hw.base s1, fun x hx hu => by
    rcases hx with rfl | hx
    · rcases hu with rfl | hu
      · omega
      · cases hu
    · cases hx⟩
  clear hw hb hB HW HB
  go_wp2_with fail
  go_loopw [11] (fun i wr => ∃ (k : Nat) (V U : Value) (s t : Is), i = .int .i64 k ∧ k ≤ l.length ∧ X2 B C V U s t wr ∧ Has tot l id k s ∧ Has tot l (turn l.length k0) k t ∧ Below B w wr) (fun i _ => l.length - (intOf i).toNat)
  case atStart => exact ⟨0, _, _, _, _, rfl, Nat.zero_le _, HX2.out, has_zero _ _ t0 (by omega), has_zero _ _ t0 (by omega), HB2.out⟩
  case round =>
    obtain ⟨k, V, U, s, t, rfl, hk, hx, hs, ht, hb⟩ := hrel
    have HX := Lib.hid hx
    have HS := Lib.hid hs
    have HT := Lib.hid ht
    have HBk := Lib.hid hb
    have sk : B ≤ wr.heap.size := by have := hb.size; rw [HBQ.out] at this; exact this
    clear hx hs ht hb HX2 HB2
    by_cases hlt : k < l.length
    · obtain ⟨b, o, rfl, hbo, cw⟩ := Rd.row rowRg (by decide) (HR.out.below (by rw [HBQ.out]; exact HBk.out)) k hlt
      have hbB : b < B := by
        obtain ⟨_, _, _, he, _, _, hb, _⟩ := HR.out.some (by omega) (by decide)
        cases he; rw [← HBQ.out]; exact hb
      have c0 := cw 0 (.int .i64 l[k].f) rfl
      have c1 := cw 1 (.int .i64 l[k].t) rfl
      rw [Nat.add_zero] at c0
      have HA := Lib.hid (has_add HS.out (show id k < l.length from hlt))
      clear cw
      obtain ⟨xf, HXF⟩ : ∃ xf, Hid (l[k].f = xf) := ⟨_, Lib.hid rfl⟩
      obtain ⟨xt, HXT⟩ : ∃ xt, Hid (l[k].t = xt) := ⟨_, Lib.hid rfl⟩
      rw [HXF.out] at c0
      rw [HXT.out] at c1
      have hnb : ¬ WM B V b := fun hh => by have := (HX.out.a.lt b hh).1; omega
      go_wp2_with fail
      refine wp_run (M := (WM B V)) (stages [([true, true, true, true, true, true, true, true, true, true, true, false], 11)] [false, false, false, false, false, false, false, false, false, false, false, false]) (by kernel_rfl) (by kernel_rfl) ?_
      refine run_stage rfl ?_
      simp only [pickAt]
      repeat (go_big_quiet_step (fail))
      refine wpQuiet_nil ?_
      refine run_want rfl ?_
      intro A hA
      go_simp
      have HXd := HX.out.keptF (Kept.drew (fun _ => False) wr)
      refine (add_all B B V s xf xt _ HXd.a HS.out.ok (by have := HS.out.len; omega)).mono ?_
      rintro e w3 ⟨rfl, hp3⟩
      obtain ⟨V3, hx3, hb3⟩ := HXd.first hp3
      have hk3 : Kept (WM B V) wr.drew w3 := by obtain ⟨_, _, hk, _⟩ := hp3; exact hk
      have HX3 := Lib.hid hx3
      have HB3 := Lib.hid (HBk.out.drew.trans hb3)
      have sb3 := Nat.le_trans sk hb3.size
      refine hA _ _ (hk3) ?_
      try simp only [Act.put, List.setIfInBounds_toArray, List.set_cons_zero, List.set_cons_succ]
      clear A hA
      clear hp3 hx3 hb3 hk3 HXd
      refine run_last ?_
      simp only [pickAt]
      repeat (go_big_quiet_step (fail))
      refine wpQuiet_nil ?_
      obtain ⟨q, HQ⟩ : ∃ q, Hid (turn l.length k0 k = q) := ⟨_, Lib.hid rfl⟩
      have hq : q < l.length := by rw [← HQ.out]; exact turn_lt k0 hlt
      have HAT := Lib.hid (has_add HT.out (show turn l.length k0 k < l.length from turn_lt k0 hlt))
      obtain ⟨R, HRR⟩ : ∃ R, Hid (k0 % (l.length : Int) = R) := ⟨_, Lib.hid rfl⟩
      have hR0 : 0 ≤ R := by rw [← HRR.out]; exact Int.emod_nonneg _ (by omega)
      have hR1 : R < 40 := by have := Int.emod_lt_of_pos k0 (show (0 : Int) < l.length by omega); rw [HRR.out] at this; omega
      have hrd3 := HR.out.below (by rw [HBQ.out]; exact HB3.out)
      obtain ⟨b', o', he, hbo', cw'⟩ := Rd.row rowRg (by decide) hrd3 q hq
      cases he
      have d0 := cw' 0 (.int .i64 l[q].f) rfl
      have d1 := cw' 1 (.int .i64 l[q].t) rfl
      rw [Nat.add_zero] at d0
      clear cw' c0 c1 hnb hrd3
      obtain ⟨yf, HYF⟩ : ∃ yf, Hid (l[q].f = yf) := ⟨_, Lib.hid rfl⟩
      obtain ⟨yt, HYT⟩ : ∃ yt, Hid (l[q].t = yt) := ⟨_, Lib.hid rfl⟩
      rw [HYF.out] at d0
      rw [HYT.out] at d1
      go_wp2_with fail
      refine (round_any k0 l.length _ (by omega) (by omega)).mono ?_
      rw [HRR.out]
      rintro e w4 ⟨rfl, rfl⟩
      go_wp2_with fail
      refine (round_any (k + R) l.length _ (by omega) (by omega)).mono ?_
      rw [← HRR.out, turn_int k0 hlt, HQ.out, HRR.out]
      rintro e w4 ⟨rfl, rfl⟩
      go_upto_region 12 with fail
      have OX := Lib.hid (Ob.new w3 #[.int .i64 yf, .int .i64 yt] TR)
      have HX4 := Lib.hid (HX3.out.keptF ((Kept.refl (fun _ => False) w3).alloc (.cells #[.int .i64 yf, .int .i64 yt] TR)))
      have HB4 := Lib.hid (HB3.out.alloc sb3 (.cells #[.int .i64 yf, .int .i64 yt] TR))
      generalize w3.alloc (.cells #[.int .i64 yf, .int .i64 yt] TR) = w4 at *
      generalize w3.heap.size = X at *
      obtain ⟨lx, cx, fx⟩ := OX.out.blk
      have e0 : w4.cell? ⟨X, 0, none⟩ = some (.int .i64 yf) := cx 0
      have e1 : w4.cell? ⟨X, 1, none⟩ = some (.int .i64 yt) := cx 1
      clear cx d0 d1
      go_wp2_with fail
      refine (add_all C B U t yf yt _ HX4.out.b HT.out.ok (by have := HT.out.len; omega)).mono ?_
      rintro e w5 ⟨rfl, hp5⟩
      obtain ⟨U5, hx5, hb5⟩ := HX4.out.second hp5
      have HX5 := Lib.hid hx5
      have HB5 := Lib.hid (HB4.out.trans hb5)
      clear hp5 hx5 hb5
      go_wp2_with fail
      go_roundw
      case rel =>
        refine ⟨k + 1, V3, U5, _, _, by go_num, by omega, HX5.out, ?_, ?_, HB5.out⟩
        · have h := HA.out
          simp only [id, HXF.out, HXT.out] at h
          exact h
        · have h := HAT.out
          simp only [HQ.out, HYF.out, HYT.out] at h
          exact h
      case measure => simp [intOf]; omega
    · obtain rfl : k = l.length := by omega
      have hst : s = t := has_same HS.out HT.out (fun m hm => turn_on k0 m hm)
      subst hst
      clear HT
      go_wp2_with fail
      go_loopw [13] (fun i wq => ∃ (j : Nat) (V : Value), i = .int .i64 j ∧ j ≤ l.length ∧ X2 B C V U s s wq ∧ Below B w wq) (fun i _ => l.length - (intOf i).toNat)
      case atStart => exact ⟨0, V, rfl, Nat.zero_le _, HX.out, HBk.out⟩
      case round =>
        obtain ⟨j, V, rfl, hj, hx, hb⟩ := hrel
        have HX := Lib.hid hx
        have HBk := Lib.hid hb
        have sk : B ≤ wr.heap.size := by have := hb.size; rw [HBQ.out] at this; exact this
        clear hx hb
        by_cases hlt : j < l.length
        · obtain ⟨b, o, rfl, hbo, cw⟩ := Rd.row rowRg (by decide) (HR.out.below (by rw [HBQ.out]; exact HBk.out)) j hlt
          have hbB : b < B := by
            obtain ⟨_, _, _, he, _, _, hb, _⟩ := HR.out.some (by omega) (by decide)
            cases he; rw [← HBQ.out]; exact hb
          have c0 := cw 0 (.int .i64 l[j].f) rfl
          have c1 := cw 1 (.int .i64 l[j].t) rfl
          rw [Nat.add_zero] at c0
          obtain ⟨e1, e2⟩ := has_fresh HS.out hlt
          have E1 := Lib.hid e1
          have E2 := Lib.hid e2
          clear cw e1 e2
          have hnb : ¬ WM B V b := fun hh => by have := (HX.out.a.lt b hh).1; omega
          generalize l[j].f = xf at *
          generalize l[j].t = xt at *
          go_wp2_with fail
          refine wp_run (M := (WM B V)) (stages [([true, true, true, true, true, true, true, true, true, true, true, false, false, false, false, false, false], 11)] [false, false, false, false, false, false, false, false, false, false, false, false, true, true, true, true, true]) (by kernel_rfl) (by kernel_rfl) ?_
          refine run_stage rfl ?_
          simp only [pickAt]
          repeat (go_big_quiet_step (fail))
          refine wpQuiet_nil ?_
          refine run_want rfl ?_
          intro A hA
          go_simp
          have HXd := HX.out.keptF (Kept.drew (fun _ => False) wr)
          refine (add_all B B V s xf xt _ HXd.a HS.out.ok (by have := HS.out.len; omega)).mono ?_
          rw [E1.out, E2.out]
          rintro e w3 ⟨rfl, hp3⟩
          obtain ⟨V3, hx3, hb3⟩ := HXd.first hp3
          have hk3 : Kept (WM B V) wr.drew w3 := by obtain ⟨_, _, hk, _⟩ := hp3; exact hk
          have HX3 := Lib.hid hx3
          have HB3 := Lib.hid (HBk.out.drew.trans hb3)
          refine hA _ _ (hk3) ?_
          try simp only [Act.put, List.setIfInBounds_toArray, List.set_cons_zero, List.set_cons_succ]
          clear A hA
          clear hp3 hx3 hb3 hk3 HXd
          refine run_last ?_
          simp only [pickAt]
          repeat (go_big_quiet_step (fail))
          refine wpQuiet_nil ?_
          go_wp2_with fail
          go_roundw
          case rel => exact ⟨j + 1, V3, by go_num, by omega, HX3.out, HB3.out⟩
          case measure => simp [intOf]; omega
        · have hlen : s.l.length ≤ 100000 := by have := HS.out.len; omega
          go_wp2_with fail
          refine (ranges_iv B B V s _ HX.out.a hlen).mono ?_
          rintro e w3 ⟨v3, rfl, hv3, hb3⟩
          have HX3 := Lib.hid (HX.out.keptF (Kept.of_below hb3))
          have HV3 := Lib.hid hv3
          have HB3 := Lib.hid (HBk.out.trans (hb3.mono sk))
          have sb3 := Nat.le_trans sk hb3.size
          clear hv3 hb3
          go_wp2_with fail
          refine (ranges_iv C B U s _ HX3.out.b hlen).mono ?_
          rintro e w4 ⟨v4, rfl, hv4, hb4⟩
          have HX4 := Lib.hid (HX3.out.keptF (Kept.of_below hb4))
          have HV4 := Lib.hid hv4
          have HV34 := Lib.hid (own_kept HV3.out (Kept.of_below (M := fun _ => False) hb4) (fun _ _ h => h))
          have HB4 := Lib.hid (HB3.out.trans (hb4.mono sb3))
          have sb4 := Nat.le_trans sb3 hb4.size
          clear hv4 hb4
          go_wp2_with fail
          refine (like_iv s.l v3 v4 _ (Rd.of_own HV34.out) (Rd.of_own HV4.out)).mono ?_
          rintro e w5 ⟨rfl, hk5⟩
          have HX5 := Lib.hid (HX4.out.keptF hk5)
          have HB5 := Lib.hid (HB4.out.trans (hk5.belowAt sb4 (fun _ h => h.elim)))
          have sb5 := Nat.le_trans sb4 hk5.size
          clear hk5
          go_wp2_with fail
          refine (sum_iv B B V s _ HX5.out.a HS.out.ok hlen).mono ?_
          rintro e w6 ⟨rfl, hb6⟩
          have HX6 := Lib.hid (HX5.out.keptF (Kept.of_below hb6))
          have HB6 := Lib.hid (HB5.out.trans (hb6.mono sb5))
          have sb6 := Nat.le_trans sb5 hb6.size
          clear hb6
          go_wp2_with fail
          refine (sum_iv C B U s _ HX6.out.b HS.out.ok hlen).mono ?_
          rintro e w7 ⟨rfl, hb7⟩
          have HB7 := Lib.hid (HB6.out.trans (hb7.mono sb6))
          have sb7 := Nat.le_trans sb6 hb7.size
          clear hb7
          go_wp2_with fail
          go_wp2_with fail
          refine (awake_any _).mono ?_
          rintro e w8 ⟨rfl, hb8⟩
          go_wp2_with fail
          go_ret
          refine ⟨by simp, ?_⟩
          rw [HBQ.out]
          exact HB7.out.trans (hb8.mono sb7)
set_option maxRecDepth 100000 in
theorem order_any (tot : Int) (l : List Rg) (k0 : Int) (v : Value) (w : World) (h : Rd w 2 v l.length (l.flatMap Rg.row)) : Calls Try.prog 3 #[.int .i64 tot, v, .int .i64 k0] w (TrueBelow w) := by
  by_cases hc : 0 ≤ tot ∧ tot ≤ 100000 ∧ l.length ≤ 40
  · exact order_in tot l k0 v w h hc.1 hc.2.1 hc.2.2
  · obtain ⟨v, cp, rfl, h1, h2⟩ := h.form
    clear h
    rcases (by omega : tot < 0 ∨ (0 ≤ tot ∧ 100000 < tot) ∨ (0 ≤ tot ∧ tot ≤ 100000 ∧ 40 < l.length)) with h | ⟨h, h3⟩ | ⟨h, h3, h4⟩
    all_goals
      clear hc
      go_enter Try.func3, Try.ntmps3
      go_wp2_with fail
      refine (awake_any _).mono ?_
      rintro e w2 ⟨rfl, hb⟩
      go_wp2_with fail
      go_ret
      exact ⟨rfl, hb⟩
end Go.Proofs.Ytafielokhkoadaa
