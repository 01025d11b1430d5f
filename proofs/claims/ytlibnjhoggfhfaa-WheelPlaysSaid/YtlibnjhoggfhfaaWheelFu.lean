/- The law WheelFull (chapter 2), walked. -/
import Derived.Test.YtlibnjhoggfhfaaWheelN
import Derived.Test.YtlibnjhoggfhfaaWheelQ
namespace Go.Proofs.Ytlibnjhoggfhfaa
open Go.RowKit

abbrev TW : TypeId := 65
abbrev TD : TypeId := 33
def fl (far : Int) (k : Nat) : List Du := (List.range k).map (fun (i : Nat) => ⟨far + (i : Int), (i : Int) + 1, .int .i64 i⟩)
def sF (most far : Int) (k : Nat) : Wl := ⟨most, 0, k, fl far k⟩
theorem fl_len (far : Int) (k : Nat) : (fl far k).length = k := by unfold fl; rw [List.length_map, List.length_range]
theorem fl_get (far : Int) (k i : Nat) (h : i < (fl far k).length) : (fl far k)[i] = ⟨far + (i : Int), (i : Int) + 1, .int .i64 i⟩ := by simp [fl]
theorem fl_mem {far : Int} {k : Nat} {x : Du} (h : x ∈ fl far k) : ∃ i : Nat, i < k ∧ x = ⟨far + (i : Int), (i : Int) + 1, .int .i64 i⟩ := by
  obtain ⟨i, hi, rfl⟩ := List.getElem_of_mem h
  exact ⟨i, by rwa [fl_len] at hi, fl_get _ _ _ hi⟩
theorem sF_plus {most far : Int} (hf : 0 ≤ far) (k : Nat) : (sF most far k).plus (far + k) (.int .i64 k) = sF most far (k + 1) := by
  have hm : max (far + (k : Int)) 0 = far + k := by omega
  have hl : ((sF most far k).plus (far + k) (.int .i64 k)).l = fl far (k + 1) := by
    rw [plus_last (fun x hx => ?_)]
    · show fl far k ++ [⟨max (far + (k : Int)) 0, (k : Int) + 1, .int .i64 k⟩] = _
      rw [hm]
      unfold fl
      rw [List.range_succ, List.map_append]; rfl
    · obtain ⟨i, hi, rfl⟩ := fl_mem hx
      show (far + (i : Int) < max (far + (k : Int)) 0) ∨ _
      left; omega
  have e : (sF most far k).plus (far + k) (.int .i64 k) = ⟨most, 0, (k : Int) + 1, ((sF most far k).plus (far + k) (.int .i64 k)).l⟩ := rfl
  rw [e, hl]; rfl
theorem fl_drop {far : Int} {k : Nat} {x : Du} (h : x ∈ (fl far k).drop 1) : far < x.at' ∧ x.id ≤ k := by
  obtain ⟨t, ht, rfl⟩ := List.getElem_of_mem h
  rw [List.length_drop, fl_len] at ht
  rw [List.getElem_drop, fl_get far k (1 + t) (by rw [fl_len]; omega)]
  exact ⟨by show far < far + ((1 + t : Nat) : Int); omega, by show ((1 + t : Nat) : Int) + 1 ≤ k; omega⟩
theorem fl_cons (far : Int) (k : Nat) (hk : 0 < k) : fl far k = ⟨far, 1, .int .i64 0⟩ :: (fl far k).drop 1 := by
  obtain ⟨k, rfl⟩ : ∃ m, k = m + 1 := ⟨k - 1, by omega⟩
  unfold fl
  rw [List.range_succ_eq_map, List.map_cons, List.drop_succ_cons, List.drop_zero]
  simp
theorem sF_cnt {most far : Int} {k : Nat} (hk : 0 < k) : (sF most far k).cnt far = 1 := by
  have hl : (sF most far k).l = fl far k := rfl
  refine cnt_eq (by rw [hl, fl_len]; omega) (fun x hx => ?_) (fun x hx => ?_)
  · rw [hl, fl_cons far k hk] at hx
    have hx : x ∈ [(⟨far, 1, .int .i64 0⟩ : Du)] := hx
    rw [List.mem_singleton] at hx; subst hx; exact Int.le_refl _
  · exact (fl_drop hx).1
theorem sF_goes {most far : Int} {k : Nat} (hk : 0 < k) (h0 : 0 ≤ far) (h1 : far ≤ 1125899906842624) : (sF most far k).goes far = ⟨most, far, k, (fl far k).drop 1⟩ := by
  have ht : (sF most far k).then' far = far := by
    unfold Wl.then' clampI
    rw [if_neg (by show ¬ far < 0; omega), if_neg (by omega)]
  unfold Wl.goes
  rw [ht, sF_cnt hk]; rfl
theorem sF_out {most far : Int} {k : Nat} (hk : 0 < k) (h0 : 0 ≤ far) (h1 : far ≤ 1125899906842624) : (sF most far k).out far = [⟨far, 1, .int .i64 0⟩] := by
  have ht : (sF most far k).then' far = far := by
    unfold Wl.then' clampI
    rw [if_neg (by show ¬ far < 0; omega), if_neg (by omega)]
  unfold Wl.out
  rw [ht, sF_cnt hk]
  show (fl far k).take 1 = _
  rw [fl_cons far k hk]; rfl
def sH (most far : Int) (k : Nat) : Wl := ⟨most, far, (k : Int) + 1, ⟨far, (k : Int) + 1, .int .i64 7⟩ :: (fl far k).drop 1⟩
theorem sG_plus {most far : Int} {k : Nat} (h0 : 0 ≤ far) : (⟨most, far, k, (fl far k).drop 1⟩ : Wl).plus 0 (.int .i64 7) = sH most far k := by
  have hm : max 0 far = far := by omega
  have hp : (⟨most, far, k, (fl far k).drop 1⟩ : Wl).pos ⟨max 0 far, (k : Int) + 1, .int .i64 7⟩ = 0 := by
    refine pos_eq (Nat.zero_le _) (fun x hx => by simp at hx) (fun x hx => ?_)
    have := (fl_drop (by simpa using hx)).1
    unfold Du.lt
    simp only [hm]
    omega
  rw [hm] at hp
  unfold Wl.plus sH
  simp only [hm, hp, List.take_zero, List.nil_append, List.drop_zero, List.singleton_append]
theorem sH_then {most far : Int} {k : Nat} (h0 : 0 ≤ far) : (sH most far k).then' 0 = far := by
  unfold Wl.then' clampI
  rcases (by omega : 0 < far ∨ far = 0) with h | h
  · rw [if_pos (by show (0 : Int) < far; exact h)]; rfl
  · rw [if_neg (by show ¬ (0 : Int) < far; omega), if_neg (by omega)]; exact h.symm
theorem sH_cnt {most far : Int} {k : Nat} : (sH most far k).cnt far = 1 := by
  refine cnt_eq (by show 1 ≤ (_ :: _).length; rw [List.length_cons]; omega) (fun x hx => ?_) (fun x hx => ?_)
  · have hx : x ∈ [(⟨far, (k : Int) + 1, .int .i64 7⟩ : Du)] := hx
    rw [List.mem_singleton] at hx; subst hx; exact Int.le_refl _
  · have hx : x ∈ (fl far k).drop 1 := hx
    exact (fl_drop hx).1
theorem sH_out {most far : Int} {k : Nat} (h0 : 0 ≤ far) : (sH most far k).out 0 = [⟨far, (k : Int) + 1, .int .i64 7⟩] := by
  unfold Wl.out
  rw [sH_then h0, sH_cnt]; rfl
theorem sH_goes {most far : Int} {k : Nat} (h0 : 0 ≤ far) : (sH most far k).goes 0 = ⟨most, far, (k : Int) + 1, (fl far k).drop 1⟩ := by
  unfold Wl.goes
  rw [sH_then h0, sH_cnt]; rfl
theorem now_dui (b B0 : Nat) (V : Value) (s : Wl) (w : World) (h : Wh TW TD b B0 V s w) : Calls Try.prog 13 #[.pointer (some ⟨b, 0, none⟩)] w fun e w' => e = .returned (.int .i64 s.now) ∧ w = w' := by
  obtain ⟨lb, cb, fb⟩ := h.ob.blk
  have c1 := cb 1
  clear cb h
  go_enter Try.func13, Try.ntmps13
  go_wp2_with fail
  go_ret
  exact ⟨rfl, rfl⟩
set_option maxRecDepth 100000 in
set_option maxHeartbeats 4000000 in
theorem full_in (most far : Int) (w : World) (m0 : 1 ≤ most) (m1 : most ≤ 80) (f0 : 0 ≤ far) (f1 : far ≤ 1099511627776) : Calls Try.prog 4 #[.int .i64 most, .int .i64 far] w (TrueBelow w) := by
  obtain ⟨M, HM⟩ : ∃ M : Nat, Hid (most = (M : Int)) := ⟨most.toNat, Lib.hid (by omega)⟩
  go_enter Try.func4, Try.ntmps4
  go_wp2_with fail
  refine (new_dui most _ ⟨m0, by omega⟩).mono ?_
  rintro e w1 ⟨rfl, hw, hb⟩
  have HB := Lib.hid hb
  have HW := Lib.hid hw
  have s1 := hb.size
  clear hw hb
  go_wp2_with fail
  generalize hB : w.heap.size = B at *
  have HBQ := Lib.hid hB
  clear hB
  go_loopw [7] (fun i wr => ∃ (k j : Nat) (V : Value) (s : Wl), i = .int .i64 k ∧ (k : Int) ≤ most + 2 ∧ j = min k M ∧ Hid (s = sF most far j) ∧ Wh TW TD B B V s wr ∧ s.ok ∧ Below B w wr) (fun i _ => (most + 2).toNat - (intOf i).toNat)
  case atStart => exact ⟨0, 0, _, _, rfl, by omega, by omega, Lib.hid rfl, HW.out, new_ok m0 (by omega), HB.out⟩
  case round =>
    obtain ⟨k, j, V, s, rfl, hk, hj, HS, hw, ho, hb⟩ := hrel
    have HWk := Lib.hid hw
    have HO := Lib.hid ho
    have HBk := Lib.hid hb
    have HJ := Lib.hid hj
    have sk : B ≤ wr.heap.size := by have := hb.size; rw [HBQ.out] at this; exact this
    clear hw ho hb hj
    by_cases hlt : (k : Int) < most + 2
    · by_cases hkm : (k : Int) < most
      · have hjk : j = k := by have := HJ.out; have := HM.out; omega
        subst hjk
        have hd : decide ((j : Int) < most) = true := decide_eq_true hkm
        have hlen : ((s.l.length : Nat) : Int) < s.most := by rw [HS.out]; show (((fl far j).length : Nat) : Int) < most; rw [fl_len]; exact hkm
        have HL := Lib.hid hlen
        clear hlen
        go_wp2_with fail
        refine (add_dui B B V _ (far + j) j _ HWk.out HO.out (by omega) (by omega) HL.out (by rw [HS.out]; show (j : Int) < _; omega)).mono ?_
        rintro e w3 ⟨rfl, hp3⟩
        have B3 := Lib.hid (HBk.out.trans (hp3.below HWk.out (Nat.le_refl _)))
        obtain ⟨V3, hw3, _⟩ := hp3
        have ho3 := plus_ok HO.out (a := far + j) (v := .int .i64 (j : Int)) rfl HL.out (by rw [HS.out]; show (j : Int) < _; omega)
        have HS3 : Hid (s.plus (far + j) (.int .i64 (j : Int)) = sF most far (j + 1)) := Lib.hid (by rw [HS.out]; exact sF_plus f0 j)
        have HW3 := Lib.hid hw3
        have HO3 := Lib.hid ho3
        clear hw3 ho3
        have hlast : s.last = (j : Int) := by rw [HS.out]; rfl
        rw [hlast]
        go_wp2_with fail
        go_roundw
        case rel => exact ⟨j + 1, j + 1, V3, _, by go_num, by omega, by have := HM.out; omega, HS3, HW3.out, HO3.out, B3.out⟩
        case measure => simp [intOf]; omega
      · have hd : decide ((k : Int) < most) = false := decide_eq_false hkm
        have hjM : j = M := by have := HJ.out; have := HM.out; omega
        have hlen : s.most ≤ ((s.l.length : Nat) : Int) := by rw [HS.out]; show most ≤ (((fl far j).length : Nat) : Int); rw [fl_len, hjM]; exact Int.le_of_eq HM.out
        have HL := Lib.hid hlen
        have HJM := Lib.hid hjM
        clear hlen hjM
        go_wp2_with fail
        refine (addfull_dui B B V _ (far + k) k _ HWk.out (by omega) (by omega) HL.out).mono ?_
        rintro e w3 ⟨rfl, q, rfl⟩
        go_wp2_with fail
        go_roundw
        case rel => exact ⟨k + 1, j, V, s, by go_num, by omega, by have := HM.out; have := HJM.out; omega, HS, HWk.out.dn, HO.out, below_dn HBk.out⟩
        case measure => simp [intOf]; omega
    · have hjM : j = M := by have := HJ.out; have := HM.out; omega
      subst hjM
      have hj0 : 0 < j := by have := HM.out; omega
      go_wp2_with fail
      refine (adv_dui B B V _ far _ HWk.out HO.out).mono ?_
      rintro e w3 ⟨v3, rfl, hv3, hp3⟩
      have B3 := Lib.hid (HBk.out.trans (hp3.weak.below HWk.out (Nat.le_refl _)))
      have s3 : B ≤ w3.heap.size := by have := B3.out.size; rw [HBQ.out] at this; exact this
      obtain ⟨V3, hw3, hk3, hn3⟩ := hp3
      have ho3 := goes_ok HO.out far
      have hsg : s.goes far = ⟨most, far, j, (fl far j).drop 1⟩ := by rw [HS.out]; exact sF_goes hj0 f0 (by omega)
      have hso : s.out far = [⟨far, 1, .int .i64 0⟩] := by rw [HS.out]; exact sF_out hj0 f0 (by omega)
      rw [hsg] at hw3 ho3
      rw [hso] at hv3
      obtain ⟨s3, HS3⟩ : ∃ s3 : Wl, Hid (s3 = ⟨most, far, j, (fl far j).drop 1⟩) := ⟨_, Lib.hid rfl⟩
      rw [← HS3.out] at hw3 ho3
      clear hsg hso
      have hv3 : w3.ownsRow wr.heap.size TD 3 v3 1 [.int .i64 far, .int .i64 1, .int .i64 0] := hv3
      have HW3 := Lib.hid hw3
      have HO3 := Lib.hid ho3
      have HV3 := Lib.hid hv3
      have hlen : ((s3.l.length : Nat) : Int) < s3.most := by rw [HS3.out]; show ((((fl far j).drop 1).length : Nat) : Int) < most; rw [List.length_drop, fl_len]; have := HM.out; omega
      have HL := Lib.hid hlen
      have hdis : ∀ x, v3.ownBlock = some x → ¬ WM B V3 x := fun x hx hh => by
        have h1 := (own_lt hv3 x hx).1
        have h2 := (HWk.out.lt x (hn3 x hh)).2
        omega
      clear hw3 ho3 hk3 hn3 hlen hv3
      go_wp2_with fail
      refine (add_dui B B V3 s3 0 7 _ HW3.out HO3.out (by omega) (by omega) HL.out (by rw [HS3.out]; show (j : Int) < _; have := HM.out; omega)).mono ?_
      rintro e w4 ⟨rfl, hp4⟩
      have B4 := Lib.hid (B3.out.trans (hp4.below HW3.out (Nat.le_refl _)))
      obtain ⟨V4, hw4, hk4, _⟩ := hp4
      have ho4 := plus_ok HO3.out (a := 0) (v := .int .i64 7) rfl HL.out (by rw [HS3.out]; show (j : Int) < _; have := HM.out; omega)
      have hsh : s3.plus 0 (.int .i64 7) = sH most far j := by rw [HS3.out]; exact sG_plus f0
      obtain ⟨s4, HS4⟩ : ∃ s4 : Wl, Hid (s4 = sH most far j) := ⟨_, Lib.hid rfl⟩
      rw [hsh, ← HS4.out] at hw4 ho4
      clear hsh
      have HW4 := Lib.hid hw4
      have HO4 := Lib.hid ho4
      have hv4 := own_kept HV3.out hk4 hdis
      obtain ⟨g, cap, rfl, _, _, _, hg, hc, _⟩ := own_some hv4 (by decide)
      have c2 : w4.cell? ⟨g, 2, none⟩ = some (.int .i64 0) := hc 2 _ rfl
      clear hw4 ho4 hk4 hv4 hc hdis
      have hlast : s3.last = most := by rw [HS3.out]; exact HM.out.symm
      rw [hlast]
      go_wp2_with fail
      have s4B : B ≤ w4.heap.size := by have := B4.out.size; rw [HBQ.out] at this; exact this
      clear c2
      refine (adv_dui B B V4 s4 0 _ HW4.out HO4.out).mono ?_
      rintro e w5 ⟨v5, rfl, hv5, hp5⟩
      have B5 := Lib.hid (B4.out.trans (hp5.weak.below HW4.out (Nat.le_refl _)))
      have s5 : B ≤ w5.heap.size := by have := B5.out.size; rw [HBQ.out] at this; exact this
      obtain ⟨V5, hw5, _, _⟩ := hp5
      have hso : s4.out 0 = [⟨far, (j : Int) + 1, .int .i64 7⟩] := by rw [HS4.out]; exact sH_out f0
      have hsg : s4.goes 0 = ⟨most, far, (j : Int) + 1, (fl far j).drop 1⟩ := by rw [HS4.out]; exact sH_goes f0
      rw [hso] at hv5
      have hv5 : w5.ownsRow w4.heap.size TD 3 v5 1 [.int .i64 far, .int .i64 ((j : Int) + 1), .int .i64 7] := hv5
      obtain ⟨s5', HS5⟩ : ∃ s5' : Wl, Hid (s5' = ⟨most, far, (j : Int) + 1, (fl far j).drop 1⟩) := ⟨_, Lib.hid rfl⟩
      rw [hsg, ← HS5.out] at hw5
      have HW5 := Lib.hid hw5
      obtain ⟨g5, cap5, rfl, _, _, _, hg5, hc5, _⟩ := own_some hv5 (by decide)
      have d0 : w5.cell? ⟨g5, 0, none⟩ = some (.int .i64 far) := hc5 0 _ rfl
      have d2 : w5.cell? ⟨g5, 2, none⟩ = some (.int .i64 7) := hc5 2 _ rfl
      clear hso hsg hw5 hv5 hc5
      have hln : ((s5'.l.length : Nat) : Int) = most - 1 := by rw [HS5.out]; show ((((fl far j).drop 1).length : Nat) : Int) = _; rw [List.length_drop, fl_len]; have := HM.out; omega
      have HLN := Lib.hid hln
      have HNW := Lib.hid (show s5'.now = far by rw [HS5.out])
      clear hln
      go_wp2_with fail
      refine (len_dui B B V5 s5' _ HW5.out).mono ?_
      rintro e w6 ⟨rfl, rfl⟩
      rw [HLN.out]
      go_wp2_with fail
      refine (now_dui B B V5 s5' _ HW5.out).mono ?_
      rintro e w6 ⟨rfl, rfl⟩
      rw [HNW.out]
      go_wp2_with fail
      refine (awake_any _).mono ?_
      rintro e w6 ⟨rfl, hb6⟩
      go_wp2_with fail
      go_ret
      refine ⟨rfl, ?_⟩
      rw [HBQ.out]
      exact B5.out.trans (hb6.mono s5)
theorem full_any (most far : Int) (w : World) : Calls Try.prog 4 #[.int .i64 most, .int .i64 far] w (TrueBelow w) := by
  by_cases hc : (1 ≤ most ∧ most ≤ 80) ∧ 0 ≤ far ∧ far ≤ 1099511627776
  · exact full_in most far w hc.1.1 hc.1.2 hc.2.1 hc.2.2
  · have hc2 : most < 1 ∨ (1 ≤ most ∧ 80 < most) ∨ (1 ≤ most ∧ most ≤ 80 ∧ far < 0) ∨ (1 ≤ most ∧ most ≤ 80 ∧ 0 ≤ far ∧ 1099511627776 < far) := by omega
    clear hc
    rcases hc2 with h | ⟨h, h5⟩ | ⟨h, h5, h6⟩ | ⟨h, h5, h6, h7⟩
    all_goals
      go_enter Try.func4, Try.ntmps4
      go_wp2_with fail
      refine (awake_any _).mono ?_
      rintro e w2 ⟨rfl, hb⟩
      go_wp2_with fail
      go_ret
      exact ⟨rfl, hb⟩
end Go.Proofs.Ytlibnjhoggfhfaa
