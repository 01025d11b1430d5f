/- Windows of ids (chapter 9): the contracts of their calls. -/
import Derived.Test.YtgfkgbampoocdaaGreatDoorIdsSe
import Derived.Test.YtgfkgbampoocdaaGreatDoorIdsP
import Derived.Test.YtgfkgbampoocdaaGreatDoorNum
import Derived.Test.YtgfkgbampoocdaaGreatDoorStruct
import Derived.Test.YtgfkgbampoocdaaGreatDoorObj
namespace Go.Proofs.YtgfkgbampoocdaaGreatDoor
open Go.RowKit

abbrev TW : TypeId := 69
abbrev TU : TypeId := 23
/-- the window at block b: its records at V -/
structure Wi (b B0 : Nat) (V : Value) (s : Wd) (w : World) : Prop where
  ob : Ob w b #[.int .i64 s.most, .int .u64 s.mark, V] TW
  own : w.ownsRow B0 TU 1 V s.l.length (s.l.map (Value.int .u64))
  ne : V.ownBlock ≠ some b
  bb : B0 ≤ b
def WM (b : Nat) (V : Value) : Nat → Prop := fun x => x = b ∨ V.ownBlock = some x
theorem own_lt {w : World} {B : Nat} {e : TypeId} {k : Nat} {v : Value} {n : Nat} {xs : List Value} (h : w.ownsRow B e k v n xs) : ∀ x, v.ownBlock = some x → B ≤ x ∧ x < w.heap.size := by
  intro x hx
  rcases h.2 with ⟨rfl, _⟩ | ⟨g, cap, cur, rfl, h1, h2, _⟩
  · cases hx
  · cases hx; exact ⟨h1, heap_lt h2⟩
theorem Wi.kept {b B0 : Nat} {V : Value} {s : Wd} {w w' : World} {M : Nat → Prop} (h : Wi b B0 V s w) (hk : Kept M w w') (hM : ∀ x, WM b V x → ¬ M x) : Wi b B0 V s w' :=
  ⟨h.ob.kept hk (hM b (.inl rfl)), own_kept h.own hk fun x hx => hM x (.inr hx), h.ne, h.bb⟩
theorem Wi.lt {b B0 : Nat} {V : Value} {s : Wd} {w : World} (h : Wi b B0 V s w) : ∀ x, WM b V x → B0 ≤ x ∧ x < w.heap.size := by
  rintro x (rfl | hx)
  · exact ⟨h.bb, h.ob.lt⟩
  · exact own_lt h.own x hx
theorem Wi.below {b B0 : Nat} {V : Value} {s : Wd} {w w' : World} (h : Wi b B0 V s w) (hb : Below w.heap.size w w') : Wi b B0 V s w' :=
  h.kept (M := fun _ => False) (Kept.of_below hb) fun _ _ hh => hh
theorem Wi.drew {b B0 : Nat} {V : Value} {s : Wd} {w : World} (h : Wi b B0 V s w) : Wi b B0 V s w.drew := h.kept (Kept.drew (fun _ => False) w) fun _ _ hh => hh
theorem Wi.dn {b B0 n : Nat} {V : Value} {s : Wd} {w : World} (h : Wi b B0 V s w) : Wi b B0 V s (w.drewN n) := h.kept (Kept.dn (fun _ => False) w n) fun _ _ hh => hh
theorem Wi.alloc {b B0 : Nat} {V : Value} {s : Wd} {w : World} (h : Wi b B0 V s w) (o : Obj) : Wi b B0 V s (w.alloc o) := h.kept ((Kept.refl (fun _ => False) w).alloc o) fun _ _ hh => hh
/-- what a call that changes it leaves -/
def WiPost (b B0 : Nat) (V : Value) (s' : Wd) (w w' : World) : Prop :=
  ∃ V', Wi b B0 V' s' w' ∧ Kept (WM b V) w w' ∧ ∀ x, WM b V' x → WM b V x ∨ w.heap.size ≤ x

theorem mark_any (b B0 : Nat) (V : Value) (s : Wd) (w : World) (h : Wi b B0 V s w) : Calls Tryz.prog 61 #[.pointer (some ⟨b, 0, none⟩)] w fun e w' => e = .returned (.int .u64 s.mark) ∧ w = w' := by
  obtain ⟨lb, cb, fb⟩ := h.ob.blk
  have c1 := cb 1
  clear cb h
  go_enter Tryz.func61, Tryz.ntmps61
  go_wp2_with fail
  go_ret
  exact ⟨rfl, rfl⟩
theorem len_any (b B0 : Nat) (V : Value) (s : Wd) (w : World) (h : Wi b B0 V s w) : Calls Tryz.prog 60 #[.pointer (some ⟨b, 0, none⟩)] w fun e w' => e = .returned (.int .i64 s.l.length) ∧ w = w' := by
  obtain ⟨lb, cb, fb⟩ := h.ob.blk
  obtain ⟨a, c, hv, _, _⟩ := (Rd.of_own h.own).form
  subst hv
  have c2 := cb 2
  clear cb h
  go_enter Tryz.func60, Tryz.ntmps60
  go_wp2_with fail
  go_ret
  exact ⟨rfl, rfl⟩
theorem mark_nil (w : World) : Calls Tryz.prog 61 #[.pointer none] w fun e w' => e = .returned (.int .u64 0) ∧ w = w' := by
  go_enter Tryz.func61, Tryz.ntmps61
  go_wp2_with fail
  go_ret
  exact ⟨rfl, rfl⟩
theorem len_nil (w : World) : Calls Tryz.prog 60 #[.pointer none] w fun e w' => e = .returned (.int .i64 0) ∧ w = w' := by
  go_enter Tryz.func60, Tryz.ntmps60
  go_wp2_with fail
  go_ret
  exact ⟨rfl, rfl⟩
theorem is_nil (id : Int) (w : World) : Calls Tryz.prog 12 #[.pointer none, .int .u64 id] w fun e w' => e = .returned (.bool false) ∧ w = w' := by
  go_enter Tryz.func12, Tryz.ntmps12
  go_wp2_with fail
  go_ret
  exact ⟨rfl, rfl⟩
theorem retire_nil (id : Int) (w : World) : Calls Tryz.prog 10 #[.pointer none, .int .u64 id] w fun e w' => e = .returned (.int .i64 0) ∧ w = w' := by
  go_enter Tryz.func10, Tryz.ntmps10
  go_wp2_with fail
  go_ret
  exact ⟨rfl, rfl⟩
theorem le_of_lt {l : List Int} (h : l.Pairwise (· < ·)) : l.Pairwise (· ≤ ·) := h.imp fun h => Int.le_of_lt h
theorem is_any (b B0 : Nat) (V : Value) (s : Wd) (id : Int) (w : World) (h : Wi b B0 V s w) (ho : s.ok) : Calls Tryz.prog 12 #[.pointer (some ⟨b, 0, none⟩), .int .u64 id] w fun e w' => e = .returned (.bool (s.is id)) ∧ ∃ q, w' = w.drewN q := by
  by_cases h0 : id = 0
  · have hz : (id == 0) = true := beq_iff_eq.2 h0
    have hr : s.is id = false := by unfold Wd.is; simp [h0]
    rw [hr]
    clear h ho hr
    go_enter Tryz.func12, Tryz.ntmps12
    go_wp2_with fail
    go_ret
    exact ⟨rfl, 0, rfl⟩
  · have hz : (id == 0) = false := beq_eq_false_iff_ne.2 h0
    have HR : Hid (s.is id = (s.l.contains id || decide (id < s.mark))) := Lib.hid (by unfold Wd.is; simp [h0])
    obtain ⟨lb, cb, fb⟩ := h.ob.blk
    have HO := Lib.hid (Rd.of_own h.own)
    have HS := Lib.hid (le_of_lt ho.up)
    have hl : s.l.length ≤ 1000000 := by have := ho.ln; have := ho.a1; omega
    obtain ⟨a, c, hv, _, _⟩ := HO.out.form
    subst hv
    have c1 := cb 1
    have c2 := cb 2
    clear cb h ho h0
    go_enter Tryz.func12, Tryz.ntmps12
    go_wp2_with fail
    refine (search_u64 s.l id _ _ HO.out hl HS.out).mono ?_
    rintro e w' ⟨rfl, q, rfl⟩
    have c3 : (w.drewN q).cell? ⟨b, 1, none⟩ = some (.int .u64 s.mark) := c1
    by_cases hc : s.l.contains id = true
    · have hr := Lib.hid (show s.is id = true by rw [HR.out, hc]; rfl)
      rw [hc]
      go_wp2_with fail
      go_ret
      exact ⟨by rw [hr.out]; rfl, q, rfl⟩
    · have hc' : s.l.contains id = false := by simpa using hc
      have hr := Lib.hid (show s.is id = decide (id < s.mark) by rw [HR.out, hc']; rfl)
      rw [hc']
      clear hc hc'
      go_wp2_with fail
      go_ret
      exact ⟨by rw [hr.out]; rfl, q, rfl⟩
theorem delete_own (B : Nat) (V : Value) (n j : Nat) (xs : List Value) (w : World) (h : w.ownsRow B TU 1 V n xs) (hj : j ≤ n) (h1c : ∀ u ∈ xs, u.oneCell' = true) :
    Calls Tryz.prog 74 #[V, .int .i64 0, .int .i64 j] w fun e w' => ∃ V', e = .returned V' ∧ w'.ownsRow B TU 1 V' (n - j) (xs.drop j) ∧ Kept (Lk V) w w' ∧ V'.ownBlock = V.ownBlock := by
  have hx := h.1
  rcases h.2 with ⟨rfl, hn⟩ | ⟨g, cap, cur, rfl, hg, hh, hnc, hcm, hcs, hcx⟩
  · obtain rfl : n = 0 := by omega
    obtain rfl : j = 0 := by omega
    have HO := Lib.hid h
    clear h hx
    go_enter Tryz.func74, Tryz.ntmps74
    go_wp2_with fail
    go_ret
    exact ⟨_, rfl, HO.out, Kept.refl _ _, rfl⟩
  · obtain ⟨_, _, hcm, _, cs, hr, hcl, hct⟩ := own_row h
    refine (delete_u64 g n cap 0 j cs w hr hcl hnc hcm (Nat.zero_le _) hj (fun u hu => h1c u (by rw [← hct]; exact hu))).mono ?_
    rintro e w' ⟨rfl, hk, cs', hr', hl', ht'⟩
    refine ⟨_, rfl, ?_, hk.mono (fun x _ hx => by rw [show x = g from hx]; rfl), rfl⟩
    refine row_own hg (by omega) hcm hr' (by rw [hl', hcl]) ?_
    rw [ht', hct]
    simp
theorem goes_end {b B0 : Nat} {V V' : Value} {s : Wd} {k M mk : Int} {j : Nat} {w w5 : World} (h : Wi b B0 V s w) (ho : w5.ownsRow B0 TU 1 V' (s.l.length - j) ((s.l.map (Value.int .u64)).drop j)) (hob : Ob w5 b #[.int .i64 s.most, .int .u64 mk, V] TW)
    (hk : Kept (WM b V) w w5) (hb : V'.ownBlock = V.ownBlock) (hM : max s.mark k = M) (e1 : mk = gm M s.l) (e2 : j = gn M s.l) : WiPost b B0 V (s.goes k) w (w5.setCell ⟨b, 2, none⟩ V') := by
  have hne : V'.ownBlock ≠ some b := by rw [hb]; exact h.ne
  subst hM e1 e2
  refine ⟨V', ⟨Ob.cast (hob.set 2 V') rfl, ?_, hne, h.bb⟩, hk.set _ _ (fun _ => .inl rfl), fun x hx => ?_⟩
  · have h1 := own_kept ho ((Kept.refl (Only b) w5).setO (i := 2) (v := V')) (fun y hy hh => hne (by rw [hy, show y = b from hh]))
    have e : (s.goes k).l = s.l.drop (gn (max s.mark k) s.l) := rfl
    rw [e, List.length_drop, List.map_drop]
    exact h1
  · rcases hx with rfl | hx
    · exact .inl (.inl rfl)
    · exact .inl (.inr (by rw [← hb]; exact hx))
set_option maxHeartbeats 2000000 in
set_option maxRecDepth 100000 in
theorem goes_any (b B0 : Nat) (V : Value) (s : Wd) (k : Int) (w : World) (h : Wi b B0 V s w) (hm : 0 ≤ s.mark ∧ s.mark ≤ 1152921504606846977) (hk : 0 ≤ k ∧ k ≤ 1152921504606846977) (hx : ∀ x ∈ s.l, 0 ≤ x ∧ x ≤ 1152921504606846976) (hl : s.l.length ≤ 1000000) :
    Calls Tryz.prog 31 #[.pointer (some ⟨b, 0, none⟩), .int .u64 k] w fun e w' => e = .returned (.int .i64 (s.went k)) ∧ WiPost b B0 V (s.goes k) w w' := by
  have HW := Lib.hid h
  have HX := Lib.hid hx
  have hlt := h.ob.lt
  clear h hx
  obtain ⟨lb, cb, fb⟩ := HW.out.ob.blk
  have c1 := cb 1
  clear cb
  go_enter Tryz.func31, Tryz.ntmps31
  go_wp2_with fail
  generalize hM : max s.mark k = M at *
  have HM := Lib.hid hM
  have hM0 : 0 ≤ M ∧ M ≤ 1152921504606846977 := by omega
  clear hM
  have hO := HW.out.ob.set 1 (.int .u64 M)
  simp only [List.setIfInBounds_toArray, List.set_cons_zero, List.set_cons_succ] at hO
  have HO := Lib.hid hO
  have HK := Lib.hid ((Kept.refl (Only b) w).setO (i := 1) (v := .int .u64 M))
  clear hO
  generalize w.setCell ⟨b, 1, none⟩ (.int .u64 M) = w1 at *
  clear c1 lb fb
  go_loopw [4] (fun s4 wr => ∃ (j : Nat) (mk : Int), s4 = .int .i64 j ∧ j ≤ s.l.length ∧ Ob wr b #[.int .i64 s.most, .int .u64 mk, V] TW ∧ Kept (Only b) w wr ∧ gm mk (s.l.drop j) = gm M s.l ∧ gn mk (s.l.drop j) + j = gn M s.l ∧ 0 ≤ mk ∧ mk ≤ 1152921504606846977) (fun s4 _ => s.l.length - (intOf s4).toNat)
  case atStart => exact ⟨0, M, rfl, Nat.zero_le _, HO.out, HK.out, rfl, rfl, hM0.1, hM0.2⟩
  case round =>
    obtain ⟨j, mk, rfl, hj, hob, hkp, e1, e2, m0, m1⟩ := hrel
    have HOB := Lib.hid hob
    have HKP := Lib.hid hkp
    have E1 := Lib.hid e1
    have E2 := Lib.hid e2
    have HRD := Lib.hid ((Rd.of_own HW.out.own).kept hkp fun a l c he hh => HW.out.ne (by rw [he]; show some a.block = some b; rw [show a.block = b from hh]))
    obtain ⟨a, c, hv, _, _⟩ := HRD.out.form
    obtain ⟨lb, cb, fb⟩ := hob.blk
    clear hob hkp e1 e2
    have c1 := cb 1
    have c2 := cb 2
    have HV := Lib.hid hv
    rw [hv] at c2 c1
    clear cb hv
    by_cases hjl : j < s.l.length
    · have hji : (j : Int) < s.l.length := by omega
      have hrd := HRD.out
      rw [HV.out] at hrd
      obtain ⟨g, o, rfl, c3⟩ := hrd.at j hjl
      have hgl : g < wr.heap.size := by
        obtain ⟨_, _, _, he, _, _, hb, _⟩ := hrd.some (by omega) (by decide)
        cases he; exact hb
      clear hrd
      have hxj := HX.out s.l[j] (List.getElem_mem hjl)
      have HD := Lib.hid (List.drop_eq_getElem_cons hjl)
      generalize s.l[j] = x at *
      by_cases hxm : x ≤ mk
      · go_wp2_with fail
        refine wp_region_quiet_lit (by kernel_rfl) (by kernel_rfl) ?_
        try simp only [List.append]
        repeat (first | go_big_quiet_step (fail) | quiet_step (fail))
        refine wpQuiet_nil ?_
        intro W hW
        have hkW : Kept (fun _ => False) wr W := by obtain ⟨n9, rfl⟩ := hW; exact Kept.dn _ _ _
        have HO2 := Lib.hid (HOB.out.kept hkW fun h => h)
        have HK2 := Lib.hid (HKP.out.trans (hkW.mono fun _ _ h => h.elim))
        have c3 := (hkW.cell g (o + j) hgl id).trans c3
        have hgW : g < W.heap.size := Nat.lt_of_lt_of_le hgl hkW.size
        clear hkW hW c1 c2 lb fb hgl
        obtain ⟨lb, cb, fb⟩ := HO2.out.blk
        have c1 := cb 1
        have c2 := cb 2
        rw [HV.out] at c1 c2
        clear cb
        go_wp2_with fail
        refine region_tail 16 (by kernel_rfl) (by kernel_rfl) ?_
        simp only [List.take_succ_cons, List.take_zero, List.drop_succ_cons, List.drop_zero]
        repeat (first | still_step)
        refine wpStill_nil ?_
        go_wp2_with fail
        have hst := gm_step (m := mk) (x := x) (r := s.l.drop (j + 1)) hxm
        rw [← HD.out] at hst
        refine ⟨⟨j + 1, max mk (x + 1), by go_num, by omega, Ob.cast (HO2.out.set 1 (.int .u64 (max mk (x + 1)))) rfl, HK2.out.setO.drewR, hst.1.symm.trans E1.out, ?_, by omega, by omega⟩, by simp [intOf]; omega⟩
        have := E2.out
        rw [hst.2] at this
        omega
      · have hxd : decide (x ≤ mk) = false := decide_eq_false hxm
        go_wp2_with fail
        refine wp_region_quiet_lit (by kernel_rfl) (by kernel_rfl) ?_
        try simp only [List.append]
        repeat (first | go_big_quiet_step (fail) | quiet_step (fail))
        refine wpQuiet_nil ?_
        intro W hW
        have hkW : Kept (fun _ => False) wr W := by obtain ⟨n9, rfl⟩ := hW; exact Kept.dn _ _ _
        have HO2 := Lib.hid (HOB.out.kept hkW fun h => h)
        have HK2 := Lib.hid (HKP.out.trans (hkW.mono fun _ _ h => h.elim))
        clear hkW hW c1 c2 c3 lb fb hgl
        obtain ⟨lb, cb, fb⟩ := HO2.out.blk
        have c2 := cb 2
        rw [HV.out] at c2
        clear cb
        have HG := Lib.hid (gm_stop (m := mk) (l := s.l.drop j) (by rw [HD.out]; intro y hy; cases hy; omega))
        go_wp2_with fail
        have hown := own_kept HW.out.own HK2.out (fun y hy hh => HW.out.ne (by rw [hy, show y = b from hh]))
        rw [HV.out] at hown
        refine (delete_own B0 _ s.l.length j _ _ hown (by omega) (fun u hu => by simp at hu; obtain ⟨_, _, rfl⟩ := hu; rfl)).mono ?_
        rintro e w5 ⟨V', rfl, ho5, hk5, hb5⟩
        obtain ⟨a5, c5, rfl, _, _⟩ := (Rd.of_own ho5).form
        have hob5 := HO2.out.kept hk5 (fun hh => HW.out.ne (by rw [HV.out]; exact hh))
        have hkk : Kept (WM b V) w w5 := (HK2.out.mono (fun x _ hx => .inl hx)).trans (hk5.mono (fun x _ hx => .inr (by rw [HV.out]; exact hx)))
        have HE := Lib.hid (goes_end (k := k) HW.out ho5 hob5 hkk (by rw [HV.out]; exact hb5) HM.out (HG.out.1.symm.trans E1.out) (by have := E2.out; rw [HG.out.2] at this; omega))
        have hwj : s.went k = (j : Int) := by have := E2.out; rw [HG.out.2] at this; unfold Wd.went; rw [HM.out]; omega
        have HJ := Lib.hid hwj
        clear lb fb c2 hown ho5 hk5 hb5 hkk hwj
        obtain ⟨lb, cb, fb⟩ := hob5.blk
        have c2 := cb 2
        clear cb hob5
        go_wp2_with fail
        all_goals
          go_ret
          exact ⟨by rw [HJ.out]; rfl, HE.out⟩
    · obtain rfl : j = s.l.length := by omega
      go_wp2_with fail
      refine wp_region_quiet_lit (by kernel_rfl) (by kernel_rfl) ?_
      try simp only [List.append]
      repeat (first | go_big_quiet_step (fail) | quiet_step (fail))
      refine wpQuiet_nil ?_
      intro W hW
      have hkW : Kept (fun _ => False) wr W := by obtain ⟨n9, rfl⟩ := hW; exact Kept.dn _ _ _
      have HO2 := Lib.hid (HOB.out.kept hkW fun h => h)
      have HK2 := Lib.hid (HKP.out.trans (hkW.mono fun _ _ h => h.elim))
      clear hkW hW c1 c2 lb fb
      obtain ⟨lb, cb, fb⟩ := HO2.out.blk
      have c2 := cb 2
      rw [HV.out] at c2
      clear cb
      have HG := Lib.hid (gm_stop (m := mk) (l := s.l.drop s.l.length) (by rw [List.drop_length]; intro y hy; cases hy))
      go_wp2_with fail
      have hown := own_kept HW.out.own HK2.out (fun y hy hh => HW.out.ne (by rw [hy, show y = b from hh]))
      rw [HV.out] at hown
      refine (delete_own B0 _ s.l.length s.l.length _ _ hown (by omega) (fun u hu => by simp at hu; obtain ⟨_, _, rfl⟩ := hu; rfl)).mono ?_
      rintro e w5 ⟨V', rfl, ho5, hk5, hb5⟩
      rw [Nat.sub_self] at ho5
      obtain ⟨a5, c5, rfl, _, _⟩ := (Rd.of_own ho5).form
      have hob5 := HO2.out.kept hk5 (fun hh => HW.out.ne (by rw [HV.out]; exact hh))
      have hkk : Kept (WM b V) w w5 := (HK2.out.mono (fun x _ hx => .inl hx)).trans (hk5.mono (fun x _ hx => .inr (by rw [HV.out]; exact hx)))
      have HE := Lib.hid (goes_end (k := k) HW.out (by rw [Nat.sub_self]; exact ho5) hob5 hkk (by rw [HV.out]; exact hb5) HM.out (HG.out.1.symm.trans E1.out) (by have := E2.out; rw [HG.out.2] at this; omega))
      have hwj : s.went k = (s.l.length : Int) := by have := E2.out; rw [HG.out.2] at this; unfold Wd.went; rw [HM.out]; omega
      have HJ := Lib.hid hwj
      clear lb fb c2 hown ho5 hk5 hb5 hkk hwj
      obtain ⟨lb, cb, fb⟩ := hob5.blk
      have c2 := cb 2
      clear cb hob5
      go_wp2_with fail
      all_goals
        go_ret
        exact ⟨by rw [HJ.out]; rfl, HE.out⟩
theorem Kept.comp {M N : Nat → Prop} {w w1 w2 : World} (h1 : Kept M w w1) (h2 : Kept N w1 w2) (hN : ∀ x, N x → M x ∨ w.heap.size ≤ x) : Kept M w w2 :=
  ⟨h2.os.trans h1.os, h2.tape.trans h1.tape, h2.output.trans h1.output, Nat.le_trans h1.size h2.size, fun b hb hm => (h2.block b (Nat.lt_of_lt_of_le hb h1.size) (fun hn => by rcases hN b hn with h | h; exact hm h; omega)).trans (h1.block b hb hm)⟩
theorem WiPost.then {b B0 : Nat} {V V1 : Value} {s' : Wd} {w w1 w2 : World} (h : WiPost b B0 V1 s' w1 w2) (hk : Kept (WM b V) w w1) (hn : ∀ x, WM b V1 x → WM b V x ∨ w.heap.size ≤ x) : WiPost b B0 V s' w w2 := by
  obtain ⟨V', h1, h2, h3⟩ := h
  refine ⟨V', h1, hk.comp h2 hn, fun x hx => ?_⟩
  rcases h3 x hx with h | h
  · exact hn x h
  · exact .inr (Nat.le_trans hk.size h)
theorem WiPost.same {b B0 : Nat} {V : Value} {s : Wd} {w w' : World} (h : Wi b B0 V s w) (hk : Kept (fun _ => False) w w') : WiPost b B0 V s w w' :=
  ⟨V, h.kept hk fun _ _ hh => hh, hk.mono fun _ _ hh => hh.elim, fun _ hx => .inl hx⟩
theorem ins_row {s : Wd} {id : Int} : (s.l.map (Value.int .u64)).take (s.pos id) ++ [Value.int .u64 id] ++ (s.l.map (Value.int .u64)).drop (s.pos id) = (s.ins id).l.map (Value.int .u64) := by
  show _ = (s.l.take (s.pos id) ++ [id] ++ s.l.drop (s.pos id)).map _
  simp only [List.map_append, List.map_take, List.map_drop, List.map_cons, List.map_nil]
set_option maxHeartbeats 2000000 in
set_option maxRecDepth 100000 in
theorem done_any (b B0 : Nat) (V : Value) (s : Wd) (id : Int) (w : World) (h : Wi b B0 V s w) (ho : s.ok) (hid : 0 ≤ id) : Calls Tryz.prog 8 #[.pointer (some ⟨b, 0, none⟩), .int .u64 id] w fun e w' => e = .returned (.int .i64 (s.code id)) ∧ WiPost b B0 V (s.done id) w w' := by
  have HW := Lib.hid h
  have HO := Lib.hid ho
  clear h ho
  by_cases h0 : id = 0 ∨ 1152921504606846976 < id
  · have e1 : s.code id = 1 := if_pos h0
    have e2 : s.done id = s := if_pos h0
    rw [e1, e2]
    clear e1 e2
    rcases h0 with h0 | h0
    · have hz : (id == 0) = true := beq_iff_eq.2 h0
      go_enter Tryz.func8, Tryz.ntmps8
      go_wp2_with fail
      go_ret
      exact ⟨rfl, WiPost.same HW.out (Kept.refl _ _)⟩
    · have hz : (id == 0) = false := beq_eq_false_iff_ne.2 (by omega)
      have hb : decide (1152921504606846976 < id) = true := decide_eq_true h0
      go_enter Tryz.func8, Tryz.ntmps8
      go_wp2_with fail
      go_ret
      exact ⟨rfl, WiPost.same HW.out (Kept.refl _ _)⟩
  · have hz : (id == 0) = false := beq_eq_false_iff_ne.2 (by omega)
    have hb : decide (1152921504606846976 < id) = false := decide_eq_false (by omega)
    by_cases hi : s.is id = true
    · have e1 : s.code id = 0 := by unfold Wd.code; rw [if_neg h0, if_pos hi]
      have e2 : s.done id = s := by unfold Wd.done; rw [if_neg h0, if_pos hi]
      rw [e1, e2]
      clear e1 e2 h0
      go_enter Tryz.func8, Tryz.ntmps8
      go_wp2_with fail
      refine (is_any b B0 V s id _ HW.out HO.out).mono ?_
      rintro e w' ⟨rfl, q, rfl⟩
      rw [hi]
      go_wp2_with fail
      go_ret
      exact ⟨rfl, WiPost.same HW.out (Kept.dn _ _ _)⟩
    · have hi' : s.is id = false := by simpa using hi
      have HI := Lib.hid hi'
      by_cases hf : s.most ≤ s.l.length ∧ id ≠ s.mark
      · have e1 : s.code id = 4 := by unfold Wd.code; rw [if_neg h0, if_neg hi, if_pos hf]
        have e2 : s.done id = s := by unfold Wd.done; rw [if_neg h0, if_neg hi, if_pos hf]
        rw [e1, e2]
        have hf1 : decide (s.most ≤ (s.l.length : Int)) = true := decide_eq_true hf.1
        have hf2 : (id != s.mark) = true := by simpa using hf.2
        have hf3 : (id == s.mark) = false := beq_eq_false_iff_ne.2 hf.2
        clear e1 e2 h0 hi hi' hf
        go_enter Tryz.func8, Tryz.ntmps8
        go_wp2_with fail
        refine (is_any b B0 V s id _ HW.out HO.out).mono ?_
        rintro e w' ⟨rfl, q, rfl⟩
        rw [HI.out]
        have HW1 := Lib.hid (HW.out.dn (n := q))
        have HK1 := Lib.hid (Kept.dn (fun _ => False) w q)
        generalize w.drewN q = w1 at *
        obtain ⟨a, c, hv, _, _⟩ := (Rd.of_own HW1.out.own).form
        obtain ⟨lb, cb, fb⟩ := HW1.out.ob.blk
        have c0 := cb 0
        have c1 := cb 1
        have c2 := cb 2
        rw [hv] at c0 c1 c2
        clear cb hv
        go_wp2_with fail
        refine wp_region_quiet_lit (by kernel_rfl) (by kernel_rfl) ?_
        try simp only [List.append]
        repeat (first | go_big_quiet_step (fail) | quiet_step (fail))
        refine wpQuiet_nil ?_
        intro W hW
        have hkW : Kept (fun _ => False) w1 W := by obtain ⟨n9, rfl⟩ := hW; exact Kept.dn _ _ _
        have HK2 := Lib.hid (HK1.out.trans hkW)
        clear hkW hW c0 c1 c2 lb fb
        go_wp2_with fail
        go_ret
        exact ⟨rfl, WiPost.same HW.out HK2.out⟩
      · have e1 : s.code id = 0 := by unfold Wd.code; rw [if_neg h0, if_neg hi, if_neg hf]
        have e2 : s.done id = (s.ins id).goes s.mark := by unfold Wd.done; rw [if_neg h0, if_neg hi, if_neg hf]
        rw [e1, e2]
        have hff : s.most > s.l.length ∨ (s.most ≤ s.l.length ∧ id = s.mark) := by omega
        have HP := Lib.hid (pos_split HO.out.up id)
        have hnl : s.l.length ≤ 100000 := by have := HO.out.ln; have := HO.out.a1; omega
        have hm0 := HO.out.m0
        have hm1 := HO.out.m1
        have HIX : Hid (∀ x ∈ (s.ins id).l, 0 ≤ x ∧ x ≤ 1152921504606846976) := Lib.hid (fun x hx => by
          rcases ins_mem.1 hx with rfl | hx
          · omega
          · have := HO.out.hi x hx; omega)
        have HIL : Hid ((s.ins id).l.length = s.l.length + 1) := Lib.hid (ins_len HP.out.1 id)
        have HH0 := Lib.hid h0
        clear e1 e2 hi hi' hf h0
        rcases hff with hf | ⟨hf, hf2⟩
        all_goals
          first | (have hf1 : decide (s.most ≤ (s.l.length : Int)) = false := decide_eq_false (by omega)) | skip
          first | (have hf1 : decide (s.most ≤ (s.l.length : Int)) = true := decide_eq_true (by omega)) | skip
          first | (have hf3 : (id != s.mark) = false := by simp [hf2]) | skip
          first | (clear hf2) | skip
          go_enter Tryz.func8, Tryz.ntmps8
          go_wp2_with fail
          refine (is_any b B0 V s id _ HW.out HO.out).mono ?_
          rintro e w' ⟨rfl, q, rfl⟩
          rw [HI.out]
          have HW1 := Lib.hid (HW.out.dn (n := q))
          have HK1 := Lib.hid (Kept.dn (fun _ => False) w q)
          generalize w.drewN q = w1 at *
          obtain ⟨a, c, hv, _, _⟩ := (Rd.of_own HW1.out.own).form
          have HV := Lib.hid hv
          obtain ⟨lb, cb, fb⟩ := HW1.out.ob.blk
          have c0 := cb 0
          have c1 := cb 1
          have c2 := cb 2
          rw [hv] at c0 c1 c2
          clear cb hv
          go_wp2_with fail
          refine wp_region_quiet_lit (by kernel_rfl) (by kernel_rfl) ?_
          try simp only [List.append]
          repeat (first | go_big_quiet_step (fail) | quiet_step (fail))
          refine wpQuiet_nil ?_
          intro W hW
          have hkW : Kept (fun _ => False) w1 W := by obtain ⟨n9, rfl⟩ := hW; exact Kept.dn _ _ _
          have HK2 := Lib.hid (HK1.out.trans hkW)
          have HW2 := Lib.hid (HW1.out.kept hkW fun _ _ h => h)
          clear hkW hW c0 c1 c2 lb fb
          obtain ⟨lb, cb, fb⟩ := HW2.out.ob.blk
          have c2 := cb 2
          rw [HV.out] at c2
          clear cb
          go_wp2_with fail
          have hrd := Rd.of_own HW2.out.own
          rw [HV.out] at hrd
          refine (search_u64 s.l id _ _ hrd (by omega) (le_of_lt HO.out.up)).mono ?_
          rintro e w' ⟨rfl, q2, rfl⟩
          have HW3 := Lib.hid (HW2.out.dn (n := q2))
          have HK3 := Lib.hid (HK2.out.trans (Kept.dn (fun _ => False) W q2))
          generalize W.drewN q2 = W3 at *
          clear hrd c2 lb fb
          obtain ⟨lb, cb, fb⟩ := HW3.out.ob.blk
          have c2 := cb 2
          rw [HV.out] at c2
          clear cb
          go_wp2_with fail
          have hown := (HW3.out.alloc (.cells #[.int .u64 id] TU)).own
          rw [HV.out] at hown
          have hlt3 : ∀ x, (Value.slice a s.l.length c).ownBlock = some x → B0 ≤ x ∧ x < W3.heap.size := by rw [← HV.out]; exact own_lt HW3.out.own
          refine (insert_u64 B0 (.slice a s.l.length c) s.l.length (s.l.countP (· < id)) W3.heap.size 1 1 _ [.int .u64 id] _ hown HP.out.1 (by decide) rfl (Rw.new W3 #[.int .u64 id] TU) (by decide) (by decide)
            (fun hh => by have := (hlt3 _ hh).2; omega) (fun u hu => by simp at hu; obtain ⟨_, _, rfl⟩ := hu; rfl) (fun u hu => by simp at hu; subst hu; rfl) (by omega) (by rw [World.size_alloc]; have := HW3.out.bb; omega)).mono ?_
          rintro e w5 ⟨V1, rfl, ho5, hk5, hb5⟩
          obtain ⟨a5, c5, rfl, _, _⟩ := (Rd.of_own ho5).form
          have ho6 : w5.ownsRow B0 TU 1 (.slice a5 (s.l.length + 1) c5) (s.ins id).l.length ((s.ins id).l.map (Value.int .u64)) := by rw [HIL.out, ← ins_row]; exact ho5
          have hob5 := (HW3.out.alloc (.cells #[.int .u64 id] TU)).ob.kept hk5 (fun hh => HW.out.ne (by rw [HV.out]; exact hh))
          have hb3 := HW3.out.ob.lt
          have hne1 : (Value.slice a5 (s.l.length + 1) c5).ownBlock ≠ some b := by
            rcases hb5 with hb5 | hb5
            · rw [hb5, ← HV.out]; exact HW.out.ne
            · rw [hb5, World.size_alloc]; intro hh; injection hh; omega
          have hkk : Kept (WM b V) w w5 := (((HK3.out.mono (fun _ _ h => h.elim)).alloc _).trans (hk5.mono (fun x _ hx => .inr (by rw [HV.out]; exact hx))))
          have hws := HK3.out.size
          have hfr : ∀ x, WM b (Value.slice a5 (s.l.length + 1) c5) x → WM b V x ∨ w.heap.size ≤ x := by
            rintro x (rfl | hx)
            · exact .inl (.inl rfl)
            · rcases hb5 with hb5 | hb5
              · exact .inl (.inr (by rw [HV.out, ← hb5]; exact hx))
              · rw [hb5, World.size_alloc] at hx; injection hx; exact .inr (by omega)
          have HW6 : Hid (Wi b B0 (.slice a5 (s.l.length + 1) c5) (s.ins id) (w5.setCell ⟨b, 2, none⟩ (.slice a5 (s.l.length + 1) c5))) :=
            Lib.hid ⟨Ob.cast (hob5.set 2 _) rfl, own_kept ho6 ((Kept.refl (Only b) w5).setO) (fun y hy hh => hne1 (by rw [hy, show y = b from hh])), hne1, HW.out.bb⟩
          have HK6 := Lib.hid (hkk.set ⟨b, 2, none⟩ (.slice a5 (s.l.length + 1) c5) (fun _ => .inl rfl))
          have HF6 := Lib.hid hfr
          clear lb fb c2 hown hlt3 ho5 ho6 hk5 hb5 hkk hws hfr hne1 hb3
          obtain ⟨lb, cb, fb⟩ := hob5.blk
          have c2 := cb 2
          clear cb hob5
          have c61 : (w5.setCell ⟨b, 2, none⟩ (.slice a5 (s.l.length + 1) c5)).cell? ⟨b, 1, none⟩ = some (.int .u64 s.mark) := HW6.out.ob.blk.2.1 1
          go_wp2_with fail
          refine (goes_any b B0 _ (s.ins id) s.mark _ HW6.out ⟨by show 0 ≤ s.mark; omega, by show s.mark ≤ _; omega⟩ ⟨by omega, hm1⟩ HIX.out (by rw [HIL.out]; omega)).mono ?_
          rintro e w7 ⟨rfl, hw7⟩
          have HE := Lib.hid (hw7.then HK6.out HF6.out)
          go_wp2_with fail
          go_ret
          exact ⟨rfl, HE.out⟩
end Go.Proofs.YtgfkgbampoocdaaGreatDoor
