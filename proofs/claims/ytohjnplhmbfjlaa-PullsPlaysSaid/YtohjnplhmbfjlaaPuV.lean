/- Who waits (chapter 18): the document's Next. -/
import Derived.Test.YtohjnplhmbfjlaaPuU
namespace Go.Proofs.Ytohjnplhmbfjlaa
open Go.RowKit

theorem Rp.hd {b B0 : Nat} {V : Value} {s : Rs} {w : World} (h : Rp b B0 V s w) (i : Nat) (x : Value) {s' : Rs} (hc : (rcells s V).setIfInBounds i x = rcells s' V) (hL : s'.l = s.l) : Rp b B0 V s' (w.setCell ⟨b, i, none⟩ x) := by
  refine ⟨Ob.cast (h.ob.set i x) hc, ?_, h.ne, h.bb⟩
  rw [hL]
  exact own_kept h.own ((Kept.refl (Only b) w).setO) (fun y hy hh => h.ne (by rw [hy, show y = b from hh]))
def q1 (p Z : Int) (x : Rf) : Bool := x.pe == p && decide (Z < x.id) && decide (0 < x.wt)
def q2 (p : Int) (x : Rf) : Bool := x.pe == p && decide (0 < x.wt)
def rpick (l : List Rf) (p Z : Int) : Option Nat := (l.findIdx? (q1 p Z)).or (l.findIdx? (q2 p))
theorem q1_q2 {p Z : Int} {x : Rf} (h : q1 p Z x = true) : q2 p x = true ∧ Z < x.id := by
  unfold q1 at h
  simp only [Bool.and_eq_true, decide_eq_true_eq] at h
  exact ⟨by unfold q2; simp only [Bool.and_eq_true, decide_eq_true_eq]; exact ⟨h.1.1, h.2⟩, h.1.2⟩
theorem q2_q1 {p Z : Int} {x : Rf} (h : q2 p x = true) (hz : Z < x.id) : q1 p Z x = true := by
  unfold q2 at h
  unfold q1
  simp only [Bool.and_eq_true, decide_eq_true_eq] at h ⊢
  exact ⟨⟨h.1, hz⟩, h.2⟩
theorem take_idx {l : List Rf} {j : Nat} (h : j < l.length) (q : Rf → Bool) : (l.take (j + 1)).findIdx? q = ((l.take j).findIdx? q).or (if q l[j] = true then some j else none) := by
  rw [List.take_succ_eq_append_getElem h, List.findIdx?_append]
  congr 1
  rw [List.findIdx?_cons, List.findIdx?_nil]
  have : (l.take j).length = j := by rw [List.length_take]; omega
  by_cases hq : q l[j] = true
  · simp [hq, this]
  · simp [hq]
theorem rpick_skip {l : List Rf} {j : Nat} {p Z : Int} (h : j < l.length) (hq : q2 p l[j] = false) : rpick (l.take (j + 1)) p Z = rpick (l.take j) p Z := by
  have h1 : q1 p Z l[j] = false := by
    cases hh : q1 p Z l[j]
    · rfl
    · have := (q1_q2 hh).1; rw [hq] at this; cases this
  unfold rpick
  rw [take_idx h, take_idx h, hq, h1]
  simp
theorem rpick_first {l : List Rf} {j : Nat} {p Z : Int} (h : j < l.length) (hq : q2 p l[j] = true) (hn : rpick (l.take j) p Z = none) : rpick (l.take (j + 1)) p Z = some j := by
  unfold rpick at hn ⊢
  rw [Option.or_eq_none_iff] at hn
  rw [take_idx h, take_idx h, hn.1, hn.2, hq]
  cases q1 p Z l[j] <;> simp
theorem rpick_stay {l : List Rf} {j k : Nat} {p Z : Int} (h : j < l.length) (hk : k < l.length) (hn : rpick (l.take j) p Z = some k) (hc : Z < l[k].id ∨ ¬ Z < l[j].id) : rpick (l.take (j + 1)) p Z = some k := by
  have hlt : ∀ (q : Rf → Bool) (i : Nat), (l.take j).findIdx? q = some i → ∃ h : i < l.length, q l[i] = true ∧ i < j := fun q i hi => by
    obtain ⟨a, b, _⟩ := List.findIdx?_eq_some_iff_getElem.1 hi
    have a' : i < l.length := by rw [List.length_take] at a; omega
    rw [List.getElem_take] at b
    exact ⟨a', b, by rw [List.length_take] at a; omega⟩
  unfold rpick at hn ⊢
  rw [take_idx h, take_idx h]
  cases hA : (l.take j).findIdx? (q1 p Z) with
  | some a =>
    rw [hA] at hn
    simpa using hn
  | none =>
    rw [hA] at hn
    have hn : (l.take j).findIdx? (q2 p) = some k := by simpa using hn
    obtain ⟨_, hq, hkj⟩ := hlt _ _ hn
    rw [hn]
    rcases hc with hc | hc
    · have := q2_q1 (Z := Z) hq hc
      have h2 := List.findIdx?_eq_none_iff.1 hA l[k] (by rw [List.mem_take_iff_getElem]; exact ⟨k, by omega, rfl⟩)
      rw [this] at h2; cases h2
    · have : q1 p Z l[j] = false := by
        cases hh : q1 p Z l[j]
        · rfl
        · exact absurd (q1_q2 hh).2 hc
      rw [this]; simp
theorem rpick_new {l : List Rf} {j k : Nat} {p Z : Int} (h : j < l.length) (hk : k < l.length) (hn : rpick (l.take j) p Z = some k) (hq : q2 p l[j] = true) (h1 : l[k].id ≤ Z) (h2 : Z < l[j].id) : rpick (l.take (j + 1)) p Z = some j := by
  unfold rpick at hn ⊢
  rw [take_idx h, take_idx h, q2_q1 hq h2]
  cases hA : (l.take j).findIdx? (q1 p Z) with
  | some a =>
    rw [hA] at hn
    obtain rfl : a = k := by simpa using hn
    obtain ⟨a, b, _⟩ := List.findIdx?_eq_some_iff_getElem.1 hA
    rw [List.getElem_take] at b
    have := (q1_q2 b).2
    omega
  | none => simp
theorem rpick_lt {l : List Rf} {j k : Nat} {p Z : Int} (hn : rpick (l.take j) p Z = some k) : k < l.length ∧ k < j := by
  have hlt : ∀ (q : Rf → Bool) (i : Nat), (l.take j).findIdx? q = some i → i < l.length ∧ i < j := fun q i hi => by
    have a := idx_lt hi
    rw [List.length_take] at a
    omega
  unfold rpick at hn
  cases hA : (l.take j).findIdx? (q1 p Z) with
  | some a =>
    rw [hA] at hn
    obtain rfl : a = k := by simpa using hn
    exact hlt _ _ hA
  | none =>
    rw [hA] at hn
    exact hlt _ _ (by simpa using hn)
structure Rs.ok (s : Rs) (N : Int) : Prop where
  len : s.l.length ≤ 1000000
  fl : ∀ x ∈ s.l, RfOk x
  ct : ∀ x ∈ s.l, 0 ≤ x.ct ∧ x.ct ≤ N
  id : ∀ x ∈ s.l, 1 ≤ x.id
  pe : 0 ≤ s.peer ∧ s.peer < 8
  z : ∀ p, p < 8 → s.se p = false → s.la p = 0
def Rs.turn (s : Rs) (i : Nat) : Nat := if s.beg = true then (s.peer.toNat + 1 + i) % 8 else i
def Rs.idle (s : Rs) (i : Nat) : Prop := rpick s.l (s.turn i) (s.la (s.turn i)) = none
def Rs.serve (s : Rs) (p k : Nat) (x : Rf) : Rs := { s with l := s.l.set k ⟨x.pe, x.id, x.wt - 1, x.ct + 1⟩, peer := p, beg := true, la := upd s.la p x.id, se := upd s.se p true }
def RNext (b B0 : Nat) (V : Value) (s : Rs) (w : World) (e : Ending) (w' : World) : Prop :=
  ((∀ i, i < 8 → s.idle i) ∧ e = .returned (.tuple #[.int .i64 0, .int .u64 0, .int .i64 0, .bool false]) ∧ RpPost b B0 V s w w') ∨
  ∃ i k x, i < 8 ∧ (∀ j, j < i → s.idle j) ∧ rpick s.l (s.turn i) (s.la (s.turn i)) = some k ∧ s.l[k]? = some x ∧ e = .returned (.tuple #[.int .i64 (s.turn i), .int .u64 x.id, .int .i64 (x.ct + 1), .bool true]) ∧ RpPost b B0 V (s.serve (s.turn i) k x) w w'
set_option maxRecDepth 100000 in
set_option maxHeartbeats 8000000 in
theorem rnext (b B0 : Nat) (V : Value) (s : Rs) (N : Int) (w : World) (h : Rp b B0 V s w) (ho : s.ok N) (hN : N ≤ 1000000000) :
    Calls Try.prog 13 #[.pointer (some ⟨b, 0, none⟩)] w (RNext b B0 V s w) := by
  have HP := Lib.hid h
  have HO := Lib.hid ho
  obtain ⟨t0, t1⟩ := ho.pe
  obtain ⟨a, c, hv, hlc, hcm⟩ := (Rd.of_own h.own).form
  have HV := Lib.hid hv
  clear h ho hv
  go_enter Try.func13, Try.ntmps13
  go_wp2_with fail
  go_loopw [6] (fun z wr => ∃ i : Nat, z = .int .i64 i ∧ i ≤ 8 ∧ Hid (∀ j, j < i → s.idle j) ∧ Below w.heap.size w wr) (fun a _ => 8 - (intOf a).toNat)
  case atStart => exact ⟨0, rfl, Nat.zero_le _, Lib.hid (fun j hj => by omega), Below.refl _ _⟩
  case round =>
    obtain ⟨i, rfl, hi, HI, hb⟩ := hrel
    have HB := Lib.hid hb
    have hP := HP.out.below hb
    have HPi := Lib.hid hP
    have sb := hb.size
    clear hb
    by_cases hlt : i < 8
    · have hlti : (i : Int) < 8 := by omega
      obtain ⟨lb, cb, fb⟩ := hP.ob.blk
      have c2 : wr.cell? ⟨b, 2, none⟩ = some (.int .i64 s.peer) := cb 2
      have c3 : wr.cell? ⟨b, 3, none⟩ = some (.bool s.beg) := cb 3
      clear cb hP
      obtain ⟨q, HQ⟩ : ∃ q, Hid (s.turn i = q) := ⟨_, Lib.hid rfl⟩
      have hq : q < 8 := by
        rw [← HQ.out]; unfold Rs.turn
        split
        · exact Nat.mod_lt _ (by decide)
        · exact hlt
      obtain ⟨bg, HBG⟩ : ∃ bg, Hid (s.beg = bg) := ⟨_, Lib.hid rfl⟩
      rw [HBG.out] at c3
      go_upto_if 20 with fail
      go_cut [7] from 16 to 28 (fun s7 wx => s7 = .int .i64 q ∧ wx = wr)
      case first =>
        cases bg
        · have hqe : (i : Int) = q := by rw [← HQ.out]; unfold Rs.turn; rw [if_neg (by rw [HBG.out]; decide)]
          have HQE := Lib.hid hqe
          clear hqe
          go_wp2_with fail
          go_meet
          exact ⟨by rw [← HQE.out], rfl⟩
        · have hqe : (s.peer + 1 + (i : Int)) % 8 = (q : Int) := by rw [← HQ.out]; unfold Rs.turn; rw [if_pos HBG.out]; omega
          go_wp2_with fail
          go_meet
          exact ⟨by rw [← hqe], rfl⟩
      case rest =>
      obtain ⟨rfl, hwc⟩ := hcut
      have hwc := hwc.symm
      subst hwc
      have hqi : (q : Int) < 8 := by omega
      clear c2 c3 lb fb
      obtain ⟨sv, HSV⟩ : ∃ sv, Hid (s.se q = sv) := ⟨_, Lib.hid rfl⟩
      obtain ⟨Z, HZ⟩ : ∃ Z, Hid (s.la q = Z) := ⟨_, Lib.hid rfl⟩
      go_wp2_with fail
      go_loopw [8, 9] (fun zk zj wi => ∃ (j : Nat), zj = .int .i64 j ∧ zk = .int .i64 (optI (rpick (s.l.take j) q Z)) ∧ j ≤ s.l.length ∧ Below w.heap.size w wi) (fun _ a _ => s.l.length - (intOf a).toNat)
      case atStart => exact ⟨0, rfl, by simp [rpick, optI], Nat.zero_le _, HB.out⟩
      case round =>
        obtain ⟨j, rfl, rfl, hj, hb⟩ := hrel
        rename World => wi
        have HBI := Lib.hid hb
        have HPI := Lib.hid (HP.out.below hb)
        have sbi := hb.size
        clear hb
        obtain ⟨K, HK⟩ : ∃ K, Hid (rpick (s.l.take j) q Z = K) := ⟨_, Lib.hid rfl⟩
        rw [HK.out]
        obtain ⟨lb, cb, fb⟩ := HPI.out.ob.blk
        have c1 : wi.cell? ⟨b, 1, none⟩ = some (.slice a s.l.length c) := by rw [← HV.out]; exact cb 1
        clear cb
        by_cases hjl : j < s.l.length
        · have hjli : (j : Int) < s.l.length := by omega
          have hrd := Rd.of_own HPI.out.own
          rw [HV.out] at hrd
          obtain ⟨g, o, rfl, hg, cw⟩ := Rd.row rowRf (by decide) hrd j hjl
          obtain ⟨x, HX⟩ : ∃ x, Hid (s.l[j] = x) := ⟨_, Lib.hid rfl⟩
          rw [HX.out] at cw
          have cf0 := cw 0 (.int .i64 x.pe) rfl
          have cf1 := cw 1 (.int .u64 x.id) rfl
          have cf2 := cw 2 (.int .i64 x.wt) rfl
          have cf3 := cw 3 (.int .i64 x.ct) rfl
          rw [Nat.add_zero] at cf0
          have hd0 : decide (j < s.l.length) = true := decide_eq_true hjl
          have hk2 : ∀ k, (hk : k < s.l.length) → wi.cell? ⟨g, o + k * 4 + 1, none⟩ = some (.int .u64 (s.l[k]).id) := fun k hk => by
            obtain ⟨_, _, he, _, cw⟩ := Rd.row rowRf (by decide) hrd k hk
            cases he
            exact cw 1 (.int .u64 (s.l[k]).id) rfl
          have HK2 := Lib.hid hk2
          clear cw hrd hk2
          go_upto_region 12 with fail
          have HB5 := Lib.hid (HBI.out.alloc sbi (.cells #[.int .i64 x.pe, .int .u64 x.id, .int .i64 x.wt, .int .i64 x.ct] TRf))
          have OX := Lib.hid (Ob.new wi #[.int .i64 x.pe, .int .u64 x.id, .int .i64 x.wt, .int .i64 x.ct] TRf)
          have HP5 := Lib.hid (HP.out.below HB5.out)
          have hk5 : ∀ k, (hk : k < s.l.length) → (wi.alloc (.cells #[.int .i64 x.pe, .int .u64 x.id, .int .i64 x.wt, .int .i64 x.ct] TRf)).cell? ⟨g, o + k * 4 + 1, none⟩ = some (.int .u64 (s.l[k]).id) := fun k hk => by
            rw [← HK2.out k hk]
            exact ((Below.refl wi.heap.size wi).alloc (Nat.le_refl _) _).cell hg
          have HK5 := Lib.hid hk5
          have hg5 : g < (wi.alloc (.cells #[.int .i64 x.pe, .int .u64 x.id, .int .i64 x.wt, .int .i64 x.ct] TRf)).heap.size := by rw [World.size_alloc]; omega
          clear hk5 hg
          generalize wi.alloc (.cells #[.int .i64 x.pe, .int .u64 x.id, .int .i64 x.wt, .int .i64 x.ct] TRf) = w5 at *
          generalize wi.heap.size = X at *
          clear c1 cf0 cf1 cf2 cf3 lb fb HK2
          go_cut [93] from 45 to 93 (fun s93 wx => ∃ cd : Bool, s93 = .bool cd ∧ Hid (rpick (s.l.take (j + 1)) q Z = if cd = true then some j else K) ∧ Below w.heap.size w wx)
          case first =>
            obtain ⟨lx, cx, fx⟩ := OX.out.blk
            have cx0 : w5.cell? ⟨X, 0, none⟩ = some (.int .i64 x.pe) := cx 0
            have cx1 : w5.cell? ⟨X, 1, none⟩ = some (.int .u64 x.id) := cx 1
            have cx2 : w5.cell? ⟨X, 2, none⟩ = some (.int .i64 x.wt) := cx 2
            obtain ⟨lb, cb, fb⟩ := HP5.out.ob.blk
            have c1 : w5.cell? ⟨b, 1, none⟩ = some (.slice (some ⟨g, o, none⟩) s.l.length c) := by rw [← HV.out]; exact cb 1
            have cS : w5.cell? ⟨b, 12 + q, none⟩ = some (.bool sv) := by rw [cb, r_getS _ _ hq, HSV.out]
            have cL : w5.cell? ⟨b, 4 + q, none⟩ = some (.int .u64 Z) := by rw [cb, r_getL _ _ hq, HZ.out]
            have s5 := HB5.out.size
            clear cx cb
            by_cases hpe : x.pe = q
            · have hbe : (x.pe == (q : Int)) = true := beq_iff_eq.2 hpe
              by_cases hw : 0 < x.wt
              · have hbw : decide (0 < x.wt) = true := decide_eq_true hw
                have HQ2 : Hid (q2 q s.l[j] = true) := Lib.hid (by rw [HX.out]; unfold q2; rw [hbe, hbw]; rfl)
                clear hpe hw
                cases K with
                | none =>
                  simp only [optI]
                  refine wp_region_quiet_lit (by kernel_rfl) (by kernel_rfl) ?_
                  try simp only [List.append]
                  repeat (first | go_big_quiet_step (fail) | quiet_step (fail))
                  refine wpQuiet_nil ?_
                  intro W hW
                  have hB6 := HB5.out.trans ((kept_ex hW).below.mono s5)
                  clear hW
                  go_wp2_with fail
                  go_meet
                  exact ⟨true, rfl, Lib.hid (by rw [if_pos rfl]; exact rpick_first hjl HQ2.out HK.out), hB6⟩
                | some k =>
                  obtain ⟨hkl, hkj⟩ := rpick_lt HK.out
                  have ck := HK5.out k hkl
                  obtain ⟨y, HY⟩ : ∃ y, Hid ((s.l[k]).id = y) := ⟨_, Lib.hid rfl⟩
                  rw [HY.out] at ck
                  simp only [optI]
                  cases sv
                  · have hst : Z < y := by
                      have h1 := HO.out.z q hq HSV.out
                      have h2 := HO.out.id _ (List.getElem_mem hkl)
                      rw [HZ.out] at h1
                      rw [HY.out] at h2
                      omega
                    have HST := Lib.hid hst
                    clear hst
                    refine wp_region_quiet_lit (by kernel_rfl) (by kernel_rfl) ?_
                    try simp only [List.append]
                    repeat (first | go_big_quiet_step (fail) | quiet_step (fail))
                    refine wpQuiet_nil ?_
                    intro W hW
                    have hB6 := HB5.out.trans ((kept_ex hW).below.mono s5)
                    clear hW
                    go_wp2_with fail
                    go_meet
                    exact ⟨false, rfl, Lib.hid (by rw [if_neg (by decide)]; exact rpick_stay hjl hkl HK.out (.inl (by rw [HY.out]; exact HST.out))), hB6⟩
                  · by_cases h1 : y ≤ Z
                    · have hb1 : decide (y ≤ Z) = true := decide_eq_true h1
                      by_cases h2 : Z < x.id
                      · have hb2 : decide (Z < x.id) = true := decide_eq_true h2
                        have HH := Lib.hid (And.intro h1 h2)
                        clear h1 h2
                        refine wp_region_quiet_lit (by kernel_rfl) (by kernel_rfl) ?_
                        try simp only [List.append]
                        repeat (first | go_big_quiet_step (fail) | quiet_step (fail))
                        refine wpQuiet_nil ?_
                        intro W hW
                        have hB6 := HB5.out.trans ((kept_ex hW).below.mono s5)
                        clear hW
                        go_wp2_with fail
                        go_meet
                        exact ⟨true, rfl, Lib.hid (by rw [if_pos rfl]; exact rpick_new hjl hkl HK.out HQ2.out (by rw [HY.out]; exact HH.out.1) (by rw [HX.out]; exact HH.out.2)), hB6⟩
                      · have hb2 : decide (Z < x.id) = false := decide_eq_false h2
                        have HH := Lib.hid h2
                        clear h1 h2
                        refine wp_region_quiet_lit (by kernel_rfl) (by kernel_rfl) ?_
                        try simp only [List.append]
                        repeat (first | go_big_quiet_step (fail) | quiet_step (fail))
                        refine wpQuiet_nil ?_
                        intro W hW
                        have hB6 := HB5.out.trans ((kept_ex hW).below.mono s5)
                        clear hW
                        go_wp2_with fail
                        go_meet
                        exact ⟨false, rfl, Lib.hid (by rw [if_neg (by decide)]; exact rpick_stay hjl hkl HK.out (.inr (by rw [HX.out]; exact Int.not_lt.2 HH.out))), hB6⟩
                    · have hb1 : decide (y ≤ Z) = false := decide_eq_false h1
                      have HH := Lib.hid h1
                      clear h1
                      refine wp_region_quiet_lit (by kernel_rfl) (by kernel_rfl) ?_
                      try simp only [List.append]
                      repeat (first | go_big_quiet_step (fail) | quiet_step (fail))
                      refine wpQuiet_nil ?_
                      intro W hW
                      have hB6 := HB5.out.trans ((kept_ex hW).below.mono s5)
                      clear hW
                      go_wp2_with fail
                      go_meet
                      exact ⟨false, rfl, Lib.hid (by rw [if_neg (by decide)]; exact rpick_stay hjl hkl HK.out (.inl (by rw [HY.out]; exact HH.out))), hB6⟩
              · have hbw : decide (0 < x.wt) = false := decide_eq_false hw
                have HQ2 : Hid (q2 q s.l[j] = false) := Lib.hid (by rw [HX.out]; unfold q2; rw [hbw, Bool.and_false])
                clear hpe hw
                refine wp_region_quiet_lit (by kernel_rfl) (by kernel_rfl) ?_
                try simp only [List.append]
                repeat (first | go_big_quiet_step (fail) | quiet_step (fail))
                refine wpQuiet_nil ?_
                intro W hW
                have hB6 := HB5.out.trans ((kept_ex hW).below.mono s5)
                clear hW
                go_wp2_with fail
                go_meet
                exact ⟨false, rfl, Lib.hid (by rw [if_neg (by decide)]; exact (rpick_skip hjl HQ2.out).trans HK.out), hB6⟩
            · have hbe : (x.pe == (q : Int)) = false := beq_eq_false_iff_ne.2 hpe
              have HQ2 : Hid (q2 q s.l[j] = false) := Lib.hid (by rw [HX.out]; unfold q2; rw [hbe, Bool.false_and])
              clear hpe
              refine wp_region_quiet_lit (by kernel_rfl) (by kernel_rfl) ?_
              try simp only [List.append]
              repeat (first | go_big_quiet_step (fail) | quiet_step (fail))
              refine wpQuiet_nil ?_
              intro W hW
              have hB6 := HB5.out.trans ((kept_ex hW).below.mono s5)
              clear hW
              go_wp2_with fail
              go_meet
              exact ⟨false, rfl, Lib.hid (by rw [if_neg (by decide)]; exact (rpick_skip hjl HQ2.out).trans HK.out), hB6⟩
          case rest =>
            obtain ⟨cd, rfl, HR, hb6⟩ := hcut
            have HB6 := Lib.hid hb6
            clear hb6
            cases cd
            · go_wp2_with fail
              go_roundw
              case rel => exact ⟨j + 1, by go_num, by rw [HR.out]; rfl, by omega, HB6.out⟩
              case measure => simp [intOf]; omega
            · go_wp2_with fail
              go_roundw
              case rel => exact ⟨j + 1, by go_num, by rw [HR.out]; rfl, by omega, HB6.out⟩
              case measure => simp [intOf]; omega
        · obtain rfl : s.l.length = j := by omega
          rw [List.take_length] at HK
          have hd0 : decide (s.l.length < s.l.length) = false := decide_eq_false (Nat.lt_irrefl _)
          cases K with
          | none =>
            simp only [optI]
            go_wp2_with fail
            go_roundw
            case rel => exact ⟨i + 1, by go_num, by omega, Lib.hid (fun t ht => by
              rcases Nat.lt_or_ge t i with h | h
              · exact HI.out t h
              · obtain rfl : t = i := by omega
                unfold Rs.idle; rw [HQ.out, HZ.out]; exact HK.out), HBI.out⟩
            case measure => simp [intOf]; omega
          | some k =>
            simp only [optI]
            have hkl : k < s.l.length := by
              have h := HK.out
              rw [← List.take_length (l := s.l)] at h
              exact (rpick_lt h).1
            obtain ⟨g, c', hv, _⟩ := own_some HPI.out.own (by omega)
            rw [HV.out] at hv
            cases hv
            obtain ⟨x, HX⟩ : ∃ x, Hid (s.l[k] = x) := ⟨_, Lib.hid rfl⟩
            have hxo := HO.out.fl _ (List.getElem_mem hkl)
            have hxc := HO.out.ct _ (List.getElem_mem hkl)
            rw [HX.out] at hxo hxc
            obtain ⟨x1, x2⟩ := hxo
            obtain ⟨x3, x4⟩ := hxc
            have hlen := HO.out.len
            have hrd := Rd.of_own HPI.out.own
            rw [HV.out] at hrd
            have E0 := Lib.hid (World.ownsRow_made (base := w.heap.size) (e := TRf) (size := 4) wi #[] 0 (by first | omega | (simp; omega)) (by decide) rfl)
            have R0 := Lib.hid (hrd.alloc (.cells #[] TRf))
            have hbw : b < w.heap.size := HP.out.ob.lt
            clear hrd
            go_upto_region 16 with (at_builtin; (refine wpList_appAt rfl (.tmp 97) (.tmp 101) 36 rfl info_rf Try.underlying36 rfl (by decide) E0.out R0.out rfl rfl (one_rf _) (by omega) (by rw [World.size_alloc]; omega) ?_; intro v6 w6 ho6 hg6 hb6; have B6 := Lib.hid ((HBI.out.alloc sbi (.cells #[] TRf)).grown hg6 (by rw [World.size_alloc]; omega) (fun y hy => (E0.out.lt y hy).1)); rw [Nat.zero_add, List.nil_append] at ho6; clear hg6 hb6))
            obtain ⟨g6, c6, hv6, _⟩ := own_some ho6 (by omega)
            subst hv6
            have HO6 := Lib.hid ho6
            obtain ⟨_, _, he, hg6, cw⟩ := Rd.row rowRf (by decide) (Rd.of_own ho6) k hkl
            cases he
            rw [HX.out] at cw
            have cf1 := cw 1 (.int .u64 x.id) rfl
            have cf2 := cw 2 (.int .i64 x.wt) rfl
            have cf3 := cw 3 (.int .i64 x.ct) rfl
            rw [Nat.zero_add] at cf1 cf2 cf3
            obtain ⟨_, _, _, _, cs, hrw, _, _⟩ := own_row ho6
            have hfz := fun i => hrw.free i
            have hgB := (own_lt ho6 g6 rfl).1
            have hbg : b ≠ g6 := by omega
            have hgb : g6 ≠ b := fun e => hbg e.symm
            clear cw hrw ho6 c1 lb fb E0 R0
            go_upto_region 18 with fail
            have ho7 := own_setK (own_setK HO6.out (k * 4 + 2) (.int .i64 (x.wt - 1))) (k * 4 + 3) (.int .i64 (x.ct + 1))
            rw [row_set1 (x := ⟨x.pe, x.id, x.wt - 1, x.ct⟩) hkl (by decide) (by rw [HX.out]; rfl), row_set1 (x := ⟨x.pe, x.id, x.wt - 1, x.ct + 1⟩) (by rw [List.length_set]; exact hkl) (by decide) (by rw [List.getElem_set_self]; rfl), List.set_set] at ho7
            have hb7 := (B6.out.setCell (p := ⟨g6, k * 4 + 2, none⟩) hgB (.int .i64 (x.wt - 1))).setCell (p := ⟨g6, k * 4 + 3, none⟩) hgB (.int .i64 (x.ct + 1))
            have cg1 : ((w6.setCell ⟨g6, k * 4 + 2, none⟩ (.int .i64 (x.wt - 1))).setCell ⟨g6, k * 4 + 3, none⟩ (.int .i64 (x.ct + 1))).cell? ⟨g6, k * 4 + 1, none⟩ = some (.int .u64 x.id) := by go_simp
            have cg3 : ((w6.setCell ⟨g6, k * 4 + 2, none⟩ (.int .i64 (x.wt - 1))).setCell ⟨g6, k * 4 + 3, none⟩ (.int .i64 (x.ct + 1))).cell? ⟨g6, k * 4 + 3, none⟩ = some (.int .i64 (x.ct + 1)) := by go_simp
            generalize (w6.setCell ⟨g6, k * 4 + 2, none⟩ (.int .i64 (x.wt - 1))).setCell ⟨g6, k * 4 + 3, none⟩ (.int .i64 (x.ct + 1)) = w7 at *
            obtain ⟨V8, hp8, hk8, hf8⟩ := rp_store (V' := .slice (some ⟨g6, 0, none⟩) s.l.length c6) (l' := s.l.set k ⟨x.pe, x.id, x.wt - 1, x.ct + 1⟩) HP.out hb7 (by rw [List.length_set]; exact ho7)
            have HP7 := Lib.hid (HP.out.ob.below hb7)
            clear cf1 cf2 cf3 hfz hg6 HO6 B6
            obtain ⟨lb, cb, fb⟩ := HP7.out.blk
            have c1 : w7.cell? ⟨b, 1, none⟩ = some V := cb 1
            have c2 : w7.cell? ⟨b, 2, none⟩ = some (.int .i64 s.peer) := cb 2
            have c3 : w7.cell? ⟨b, 3, none⟩ = some (.bool s.beg) := cb 3
            clear cb
            have hg7 : g6 < w7.heap.size := (own_lt ho7 g6 rfl).2
            have HX8 := Lib.hid (And.intro hp8 (And.intro hk8 hf8))
            clear hp8 hk8 hf8 ho7
            go_upto_region 21 with fail
            have hp9 := (HX8.out.1.hd 2 (.int .i64 q) (s' := { s with l := s.l.set k ⟨x.pe, x.id, x.wt - 1, x.ct + 1⟩, peer := q }) rfl rfl).hd 3 (.bool true) (s' := { s with l := s.l.set k ⟨x.pe, x.id, x.wt - 1, x.ct + 1⟩, peer := q, beg := true }) rfl rfl
            have hk9 := (HX8.out.2.1.set ⟨b, 2, none⟩ (.int .i64 q) (fun _ => .inl rfl)).set ⟨b, 3, none⟩ (.bool true) (fun _ => .inl rfl)
            have cg1' : (((w7.setCell ⟨b, 1, none⟩ (.slice (some ⟨g6, 0, none⟩) s.l.length c6)).setCell ⟨b, 2, none⟩ (.int .i64 q)).setCell ⟨b, 3, none⟩ (.bool true)).cell? ⟨g6, k * 4 + 1, none⟩ = some (.int .u64 x.id) := by go_simp
            have cg3' : (((w7.setCell ⟨b, 1, none⟩ (.slice (some ⟨g6, 0, none⟩) s.l.length c6)).setCell ⟨b, 2, none⟩ (.int .i64 q)).setCell ⟨b, 3, none⟩ (.bool true)).cell? ⟨g6, k * 4 + 3, none⟩ = some (.int .i64 (x.ct + 1)) := by go_simp
            have HP9 := Lib.hid hp9
            have HK9 := Lib.hid hk9
            have hF8 := Lib.hid HX8.out.2.2
            have hlV : Hid (({ s with l := s.l.set k ⟨x.pe, x.id, x.wt - 1, x.ct + 1⟩ } : Rs).l.length = s.l.length) := Lib.hid (List.length_set ..)
            clear hp9 hk9 HX8
            generalize ((w7.setCell ⟨b, 1, none⟩ (.slice (some ⟨g6, 0, none⟩) s.l.length c6)).setCell ⟨b, 2, none⟩ (.int .i64 q)).setCell ⟨b, 3, none⟩ (.bool true) = w10 at *
            clear lb fb c1 c2 c3 cg1 cg3 hg7
            obtain ⟨lb, cb, fb⟩ := HP9.out.ob.blk
            have cL : w10.cell? ⟨b, 4 + q, none⟩ = some (.int .u64 (s.la q)) := by rw [cb, r_getL _ _ hq]
            have cS : w10.cell? ⟨b, 12 + q, none⟩ = some (.bool (s.se q)) := by rw [cb, r_getS _ _ hq]
            have f1 := fb (4 + q)
            have f2 := fb (12 + q)
            clear cb
            go_wp2_with fail
            refine region_tail 10 (by kernel_rfl) (by kernel_rfl) ?_
            simp only [List.take_succ_cons, List.take_zero, List.drop_succ_cons, List.drop_zero]
            repeat (first | still_step)
            refine wpStill_nil ?_
            go_upto_region 23 with fail
            have hp11 := ((HP9.out.hd (4 + q) (.int .u64 x.id) (s' := { s with l := s.l.set k ⟨x.pe, x.id, x.wt - 1, x.ct + 1⟩, peer := q, beg := true, la := upd s.la q x.id }) (r_setL _ _ hq x.id) rfl).hd (12 + q) (.bool true) (s' := s.serve q k x) (r_setS _ _ hq true) rfl).keptF (Kept.drew (fun _ => False) _)
            have hk11 := ((HK9.out.set ⟨b, 4 + q, none⟩ (.int .u64 x.id) (fun _ => .inl rfl)).set ⟨b, 12 + q, none⟩ (.bool true) (fun _ => .inl rfl)).drewR
            have d1 : ((w10.setCell ⟨b, 4 + q, none⟩ (.int .u64 x.id)).setCell ⟨b, 12 + q, none⟩ (.bool true)).drew.cell? ⟨g6, k * 4 + 1, none⟩ = some (.int .u64 x.id) := by go_simp
            have d3 : ((w10.setCell ⟨b, 4 + q, none⟩ (.int .u64 x.id)).setCell ⟨b, 12 + q, none⟩ (.bool true)).drew.cell? ⟨g6, k * 4 + 3, none⟩ = some (.int .i64 (x.ct + 1)) := by go_simp
            have HX11 := Lib.hid (And.intro hp11 hk11)
            clear hp11 hk11
            generalize ((w10.setCell ⟨b, 4 + q, none⟩ (.int .u64 x.id)).setCell ⟨b, 12 + q, none⟩ (.bool true)).drew = w11 at *
            clear lb fb cL cS f1 f2 cg1' cg3'
            go_wp2_with fail
            refine wp_region_quiet_lit (by kernel_rfl) (by kernel_rfl) ?_
            try simp only [List.append]
            repeat (first | go_big_quiet_step (fail) | quiet_step (fail))
            refine wpQuiet_nil ?_
            intro W hW
            have HX12 := Lib.hid (And.intro (HX11.out.1.keptF (kept_ex hW)) (HX11.out.2.trans (kept_any (kept_ex hW))))
            clear hW d1 d3
            go_wp2_with fail
            exact done (.tuple #[.int .i64 q, .int .u64 x.id, .int .i64 (x.ct + 1), .bool true]) rfl (by simp [results, Try.results13, go_sem]) (.inr ⟨i, k, x, hlt, HI.out, by rw [HQ.out, HZ.out]; exact HK.out, by rw [List.getElem?_eq_getElem hkl, HX.out], by rw [HQ.out], by rw [HQ.out]; exact ⟨V8, HX12.out.1, HX12.out.2, hF8.out⟩⟩)
    · obtain rfl : i = 8 := by omega
      go_wp2_with fail
      exact done (.tuple #[.int .i64 0, .int .u64 0, .int .i64 0, .bool false]) rfl (by simp [results, Try.results13, go_sem]) (.inl ⟨HI.out, rfl, V, HPi.out, Kept.of_below HB.out, fun _ hh => .inl hh⟩)
end Go.Proofs.Ytohjnplhmbfjlaa
