/- A wheel (chapter 2): time goes by. -/
import Derived.Test.YtlibnjhoggfhfaaWheelW
import Derived.Deep.CutBlock
namespace Go.Proofs.Ytlibnjhoggfhfaa
open Go.RowKit

/-- so many have come at a time -/
def Wl.cnt (s : Wl) (n : Int) : Nat := s.l.countP (fun y => decide (y.at' ≤ n))
def Wl.then' (s : Wl) (tn : Int) : Int := clampI tn s.now 1125899906842624
def Wl.goes (s : Wl) (tn : Int) : Wl := ⟨s.most, s.then' tn, s.last, s.l.drop (s.cnt (s.then' tn))⟩
def Wl.out (s : Wl) (tn : Int) : List Du := s.l.take (s.cnt (s.then' tn))
theorem cnt_find {s : Wl} (hs : s.l.Pairwise Du.lt) {n : Int} {i : Nat} (h1 : ∃ h : i < s.l.length, decide (n < s.l[i].at') = true) (h2 : ∀ y ∈ s.l.take i, decide (n < y.at') = false) : s.cnt n = i := by
  obtain ⟨hi, h1⟩ := h1
  have h1 : n < s.l[i].at' := of_decide_eq_true h1
  refine countP_split _ (Nat.le_of_lt hi) (fun y hy => decide_eq_true (Int.not_lt.1 (of_decide_eq_false (h2 y hy)))) (fun y hy => decide_eq_false ?_)
  obtain ⟨t, ht, rfl⟩ := List.getElem_of_mem hy
  rw [List.length_drop] at ht
  rw [List.getElem_drop]
  rcases Nat.eq_zero_or_pos t with rfl | htp
  · have e : s.l[i + 0] = s.l[i] := rfl
    rw [e]; omega
  · have := List.pairwise_iff_getElem.1 hs i (i + t) hi (by omega) (by omega)
    unfold Du.lt at this
    omega
theorem cnt_all {s : Wl} {n : Int} (h : ∀ y ∈ s.l, decide (n < y.at') = false) : s.cnt n = s.l.length :=
  List.countP_eq_length.2 fun y hy => decide_eq_true (Int.not_lt.1 (of_decide_eq_false (h y hy)))
theorem del_dui (B : Nat) (V : Value) (n i j : Nat) (xs : List Value) (w : World) (h : w.ownsRow B 33 3 V n xs) (hij : i ≤ j) (hj : j ≤ n) (h1c : ∀ u ∈ xs, u.oneCell' = true) :
    Calls Try.prog 31 #[V, .int .i64 i, .int .i64 j] w fun e w' => ∃ V', e = .returned V' ∧ w'.ownsRow B 33 3 V' (n - (j - i)) (xs.take (i * 3) ++ xs.drop (j * 3)) ∧ Kept (Lk V) w w' ∧ V'.ownBlock = V.ownBlock := by
  have hx := h.1
  rcases h.2 with ⟨rfl, hn⟩ | ⟨g, cap, cur, rfl, hg, hh, hnc, hcm, hcs, hcx⟩
  · obtain rfl : n = 0 := by omega
    obtain rfl : j = 0 := by omega
    obtain rfl : i = 0 := by omega
    obtain rfl : xs = [] := List.eq_nil_of_length_eq_zero (by omega)
    have HO := Lib.hid h
    clear h hx h1c
    go_enter Try.func31, Try.ntmps31
    go_wp2_with fail
    go_ret
    exact ⟨_, rfl, HO.out, Kept.refl _ _, rfl⟩
  · obtain ⟨_, _, hcm, _, cs, hr, hcl, hct⟩ := own_row h
    refine (delete_dui g n cap i j cs w hr hcl hnc hcm hij hj (fun u hu => h1c u (by rw [← hct]; exact hu))).mono ?_
    rintro e w' ⟨rfl, hk, cs', hr', hl', ht'⟩
    refine ⟨_, rfl, ?_, hk.mono (fun x _ hx => by rw [show x = g from hx]; rfl), rfl⟩
    refine row_own hg (by omega) hcm hr' (by rw [hl', hcl]) ?_
    rw [ht', hct]
    have : cs.take (i * 3) = xs.take (i * 3) := by rw [← hct, List.take_take, Nat.min_eq_left (by omega)]
    rw [this]
theorem advc_dui (x : Du) (Z b : Nat) (now : Int) (W : World) (hZ : Z < W.heap.size) (cZ : W.cell? ⟨Z, 0, none⟩ = some (.pointer (some ⟨b, 0, none⟩))) (hb : b < W.heap.size) (c1 : W.cell? ⟨b, 1, none⟩ = some (.int .i64 now)) :
    Calls Try.prog 29 (#[.agg #[.int .i64 x.at', .int .i64 x.id, x.v]] ++ #[.pointer (some ⟨Z, 0, none⟩)]) W fun e w' => e = .returned (.bool (decide (now < x.at'))) ∧ Below W.heap.size W w' := by
  show Calls Try.prog 29 #[.agg #[.int .i64 x.at', .int .i64 x.id, x.v], .pointer (some ⟨Z, 0, none⟩)] W _
  have OX := Lib.hid (Ob.new W #[.int .i64 x.at', .int .i64 x.id, x.v] 33)
  have HB := Lib.hid ((Below.refl W.heap.size W).alloc (Nat.le_refl _) (.cells #[.int .i64 x.at', .int .i64 x.id, x.v] 33))
  have cZ1 := (HB.out.cell (p := ⟨Z, 0, none⟩) hZ).trans cZ
  have cb1 := (HB.out.cell (p := ⟨b, 1, none⟩) hb).trans c1
  have sZ := HB.out.size
  clear cZ c1
  go_enter Try.func29, Try.ntmps29
  go_wp2_with fail
  generalize W.alloc (.cells #[.int .i64 x.at', .int .i64 x.id, x.v] 33) = W1 at *
  obtain ⟨lx, cx, _⟩ := OX.out.blk
  have cx0 : W1.cell? ⟨W.heap.size, 0, none⟩ = some (.int .i64 x.at') := cx 0
  have lZ : Z < W1.heap.size := by omega
  have lb : b < W1.heap.size := by omega
  clear cx
  refine wp_region_quiet_lit (by kernel_rfl) (by kernel_rfl) ?_
  try simp only [List.append]
  repeat (first | go_big_quiet_step (fail) | quiet_step (fail))
  refine wpQuiet_nil ?_
  intro W2 hW2
  have hb2 : Below W.heap.size W W2 := by obtain ⟨n9, rfl⟩ := hW2; exact below_dn HB.out
  go_wp2_with fail
  go_ret
  exact ⟨rfl, hb2⟩
set_option maxRecDepth 100000 in
set_option maxHeartbeats 4000000 in
theorem adv_dui (b B0 : Nat) (V : Value) (s : Wl) (tn : Int) (w : World) (h : Wh 65 33 b B0 V s w) (ho : s.ok) :
    Calls Try.prog 11 #[.pointer (some ⟨b, 0, none⟩), .int .i64 tn] w fun e w' => ∃ v', e = .returned v' ∧ w'.ownsRow w.heap.size 33 3 v' (s.out tn).length ((s.out tn).flatMap Du.row) ∧ WhPostS 65 33 b B0 V (s.goes tn) w w' := by
  have HW := Lib.hid h
  have HO := Lib.hid ho
  clear h ho
  obtain ⟨a, c, hv, _, _⟩ := (Rd.of_own HW.out.own).form
  have HV := Lib.hid hv
  clear hv
  have lbw := HW.out.ob.lt
  have HZ := Lib.hid (Ob.new w #[.pointer (some ⟨b, 0, none⟩)] 24)
  have HW1 := Lib.hid (HW.out.alloc (.cells #[.pointer (some ⟨b, 0, none⟩)] 24))
  have HK1 := Lib.hid ((Kept.refl (WM b V) w).alloc (.cells #[.pointer (some ⟨b, 0, none⟩)] 24))
  go_enter Try.func11, Try.ntmps11
  go_upto_region 1 with fail
  generalize w.alloc (.cells #[.pointer (some ⟨b, 0, none⟩)] 24) = w1 at *
  obtain ⟨lz, cz, fz⟩ := HZ.out.blk
  obtain ⟨lb, cb, fb⟩ := HW1.out.ob.blk
  have cz0 : w1.cell? ⟨w.heap.size, 0, none⟩ = some (.pointer (some ⟨b, 0, none⟩)) := cz 0
  have c1 : w1.cell? ⟨b, 1, none⟩ = some (.int .i64 s.now) := cb 1
  clear cz cb
  go_wp2_with fail
  refine region_tail 9 (by kernel_rfl) (by kernel_rfl) ?_
  simp only [List.take_succ_cons, List.take_zero, List.drop_succ_cons, List.drop_zero]
  repeat (first | still_step | still_call (still (clamp_any _ _ _ _)))
  refine wpStill_nil ?_
  obtain ⟨N, HN⟩ : ∃ N, Hid (s.then' tn = N) := ⟨_, Lib.hid rfl⟩
  have hN : clampI tn s.now 1125899906842624 = N := HN.out
  rw [hN]
  have ob2 := Lib.hid ((Ob.cast (HW1.out.ob.set 1 (.int .i64 N)) (show _ = #[.int .i64 s.most, .int .i64 N, .int .i64 s.last, V] from rfl)).drew)
  have HK2 := Lib.hid ((HK1.out.set ⟨b, 1, none⟩ (.int .i64 N) (fun _ => .inl rfl)).drewR)
  have ow2 := Lib.hid (own_kept HW1.out.own (((Kept.refl (Only b) w1).setO (i := 1) (v := .int .i64 N)).drewR) (fun y hy hh => HW.out.ne (by rw [hy, show y = b from hh])))
  have HZ2 := Lib.hid (HZ.out.kept (((Kept.refl (Only b) w1).setO (i := 1) (v := .int .i64 N)).drewR) (fun hh => by have : w.heap.size = b := hh; omega))
  clear hN
  go_upto_region 4 with fail
  generalize (w1.setCell ⟨b, 1, none⟩ (.int .i64 N)).drew = W2 at *
  clear lz fz lb fb cz0 c1
  obtain ⟨lz, cz, fz⟩ := HZ2.out.blk
  obtain ⟨lb, cb, fb⟩ := ob2.out.blk
  have cz0 : W2.cell? ⟨w.heap.size, 0, none⟩ = some (.pointer (some ⟨b, 0, none⟩)) := cz 0
  have c3 : W2.cell? ⟨b, 3, none⟩ = some (.slice a s.l.length c) := by rw [cb 3, HV.out]; rfl
  clear cz cb
  have hrd := Rd.of_own ow2.out
  rw [HV.out] at hrd
  have hlen : s.l.length ≤ 100000 := by have := HO.out.ln; have := HO.out.a1; omega
  go_wp2_with fail
  refine (index_dui 29 #[.pointer (some ⟨w.heap.size, 0, none⟩)] (fun y => decide (N < y.at')) s.l _ _ (enters_of Try.func29 (by kernel_rfl) rfl) hrd (by omega) (fun W x hB => by
    have h1 := (HZ2.out.below hB).blk
    have h2 := (ob2.out.below hB).blk
    exact advc_dui x w.heap.size b N W h1.1 (h1.2.1 0) h2.1 (h2.2.1 1))).mono ?_
  rintro e W3 ⟨hb3, hfind⟩
  have HRD := Lib.hid hrd
  have hk3 := Kept.of_below (M := fun _ => False) hb3
  have ob3 := Lib.hid (ob2.out.kept hk3 id)
  have HZ3 := Lib.hid (HZ2.out.kept hk3 id)
  have ow3 := Lib.hid (own_kept ow2.out hk3 (fun _ _ hh => hh))
  have HK3 := Lib.hid (HK2.out.trans (hk3.mono (N := WM b V) fun _ _ h => h.elim))
  obtain ⟨K, r, hr, hKr, hKc⟩ : ∃ (K : Nat) (r : Int), e = .returned (.int .i64 r) ∧ ((r = -1 ∧ K = s.l.length) ∨ (r = (K : Int))) ∧ K ≤ s.l.length ∧ s.cnt N = K := by
    rcases hfind with ⟨rfl, h⟩ | ⟨i, rfl, h1, h2⟩
    · exact ⟨s.l.length, -1, rfl, .inl ⟨rfl, rfl⟩, Nat.le_refl _, cnt_all h⟩
    · exact ⟨i, i, rfl, .inr rfl, Nat.le_of_lt h1.1, cnt_find HO.out.up h1 h2⟩
  subst hr
  obtain ⟨hKl, hKc⟩ := hKc
  have HKC := Lib.hid hKc
  clear hfind hb3 hk3 hrd hKc cz0 c3 lz fz lb fb
  obtain ⟨lz, cz, fz⟩ := HZ3.out.blk
  obtain ⟨lb, cb, fb⟩ := ob3.out.blk
  have cz0 : W3.cell? ⟨w.heap.size, 0, none⟩ = some (.pointer (some ⟨b, 0, none⟩)) := cz 0
  have c3 : W3.cell? ⟨b, 3, none⟩ = some (.slice a s.l.length c) := by rw [cb 3, HV.out]; rfl
  clear cz cb
  go_upto_if 25 with fail
  go_cut [5] from 7 (fun s5 wx => s5 = .int .i64 (K : Int) ∧ wx = W3)
  case first =>
    rcases hKr with ⟨rfl, rfl⟩ | rfl
    · go_wp2_with fail
      go_meet
      exact ⟨rfl, rfl⟩
    · go_wp2_with fail
      go_meet
      exact ⟨rfl, rfl⟩
  case rest =>
  obtain ⟨rfl, rfl⟩ := hcut
  have hrd := Rd.of_own ow3.out
  rw [HV.out] at hrd
  have h1r := one_du HO.out.one
  have HT := Lib.hid (rd_tokD hrd K hKl)
  go_wp2_with fail
  refine (clone_dui _ K _ _ HT.out (one_du (fun x hx => HO.out.one x (List.mem_of_mem_take hx))) (by omega)).mono ?_
  rintro e W4 ⟨v6, rfl, hv6, hb6⟩
  have hk6 := Kept.of_below (M := fun _ => False) hb6
  have ob6 := Lib.hid (ob3.out.kept hk6 id)
  have HZ6 := Lib.hid (HZ3.out.kept hk6 id)
  have ow6 := Lib.hid (own_kept ow3.out hk6 (fun _ _ hh => hh))
  have HK6 := Lib.hid (HK3.out.trans (hk6.mono (N := WM b V) fun _ _ h => h.elim))
  have HV6 := Lib.hid hv6
  have hVb : ∀ x, V.ownBlock = some x → x < wc.heap.size := fun x hx => (own_lt ow3.out x hx).2
  have hVB := Lib.hid hVb
  have hbw := ob3.out.lt
  have hVZ : V.ownBlock ≠ some w.heap.size := fun hh => by have := (HW.out.lt _ (.inr hh)).2; omega
  clear hv6 hb6 hk6 hVb hrd cz0 c3 lz fz lb fb
  obtain ⟨lz, cz, fz⟩ := HZ6.out.blk
  obtain ⟨lb, cb, fb⟩ := ob6.out.blk
  have cz0 : W4.cell? ⟨w.heap.size, 0, none⟩ = some (.pointer (some ⟨b, 0, none⟩)) := cz 0
  have c3 : W4.cell? ⟨b, 3, none⟩ = some (.slice a s.l.length c) := by rw [cb 3, HV.out]; rfl
  clear cz cb
  go_wp2_with fail
  have nb := not_mad HW.out.ne lb
  have nz := not_mad hVZ lz
  refine wp_heads (M := (Mad V W4.heap.size)) 9 (by kernel_rfl) (by kernel_rfl) ?_
  refine hd_quiet [true, true, true, true, true, true, false, false, false, false] (by kernel_rfl) ?_
  simp only [pickAt]
  repeat (go_big_quiet_step (fail))
  refine wpQuiet_nil ?_
  refine hd_act 6 rfl (by kernel_rfl) ?_
  refine run_want rfl ?_
  intro A hA
  go_simp
  have hown := own_kept ow6.out (Kept.drew (fun _ => False) W4) (fun _ _ hh => hh)
  rw [HV.out] at hown
  refine (del_dui B0 _ s.l.length 0 K _ _ hown (Nat.zero_le _) hKl h1r).mono ?_
  rintro e w5 ⟨V5, rfl, ho5, hk5, hb5⟩
  obtain ⟨a5, c5, rfl, _, _⟩ := (Rd.of_own ho5).form
  have hk5' : Kept (Mad V W4.heap.size) W4.drew w5 := hk5.mono (fun y _ hy => .inl (by rw [HV.out]; exact hy))
  have ob5 := Lib.hid (ob6.out.drew.kept hk5 (fun hh => HW.out.ne (by rw [HV.out]; exact hh)))
  have HK5 := Lib.hid (HK6.out.drewR.trans (hk5.mono (N := WM b V) (fun x _ hx => .inr (by rw [HV.out]; exact hx))))
  have ho6 := own_kept (own_kept HV6.out (Kept.drew (fun _ => False) W4) (fun _ _ hh => hh)) hk5 (fun y hy hh => by
    have h1 := (own_lt HV6.out y hy).1
    have h2 := hVB.out y (by rw [HV.out]; exact hh)
    omega)
  have HO6 := Lib.hid (own_kept ho6 ((Kept.refl (Only b) w5).setO (i := 3) (v := .slice a5 (s.l.length - (K - 0)) c5)) (fun y hy hh => by
    have h1 := (own_lt HV6.out y hy).1
    have h2 : y = b := hh
    omega))
  have hcnt : s.cnt (s.then' tn) = K := by rw [HN.out, HKC.out]
  have hrow : (s.l.flatMap Du.row).take (0 * 3) ++ (s.l.flatMap Du.row).drop (K * 3) = (s.goes tn).l.flatMap Du.row := by
    show _ = (s.l.drop (s.cnt (s.then' tn))).flatMap Du.row
    rw [hcnt, flat_drop rowDu, Nat.zero_mul]; rfl
  have hln : s.l.length - (K - 0) = (s.goes tn).l.length := by
    show _ = (s.l.drop (s.cnt (s.then' tn))).length
    rw [hcnt, List.length_drop]; rfl
  have HP := Lib.hid (wh_storeS (s' := s.goes tn) HW.out HK5.out (by have h := ob5.out; rw [show (s.goes tn).now = N from HN.out]; exact h) ho5 (by rw [hb5, HV.out]) hrow hln)
  have hout : s.out tn = s.l.take K := by unfold Wl.out; rw [hcnt]
  have hol : (s.out tn).length = K := by rw [hout, List.length_take, Nat.min_eq_left hKl]
  have HOUT := Lib.hid hout
  have HOL := Lib.hid hol
  have lb5 := Lib.hid ob5.out.blk
  rw [Nat.sub_zero] at HP HO6
  refine hA _ _ (hk5') ?_
  try simp only [Act.put, List.setIfInBounds_toArray, List.set_cons_zero, List.set_cons_succ]
  clear A hA
  clear hk5 hk5' hb5 ho5 ho6 hown hrow hln hcnt hout hol
  refine hd_quiet [false, false, false, false, false, false, false, true, true, false] (by kernel_rfl) ?_
  simp only [pickAt]
  repeat (go_big_quiet_step (fail))
  refine wpQuiet_nil ?_
  clear lb fb c3 nb nz
  obtain ⟨lb, cb, fb⟩ := lb5.out
  have c35 := cb 3
  clear cb
  refine hd_tail rfl (by kernel_rfl) ?_
  simp only [List.drop_succ_cons, List.drop_zero]
  go_wp2_with fail
  refine NoPanic.normal ?_
  go_wp2_with fail
  go_ret
  exact ⟨v6, rfl, by rw [HOL.out, HOUT.out]; exact own_base HO6.out HK3.out.size, HP.out⟩
theorem del_dus (B : Nat) (V : Value) (n i j : Nat) (xs : List Value) (w : World) (h : w.ownsRow B 63 3 V n xs) (hij : i ≤ j) (hj : j ≤ n) (h1c : ∀ u ∈ xs, u.oneCell' = true) :
    Calls Try.prog 39 #[V, .int .i64 i, .int .i64 j] w fun e w' => ∃ V', e = .returned V' ∧ w'.ownsRow B 63 3 V' (n - (j - i)) (xs.take (i * 3) ++ xs.drop (j * 3)) ∧ Kept (Lk V) w w' ∧ V'.ownBlock = V.ownBlock := by
  have hx := h.1
  rcases h.2 with ⟨rfl, hn⟩ | ⟨g, cap, cur, rfl, hg, hh, hnc, hcm, hcs, hcx⟩
  · obtain rfl : n = 0 := by omega
    obtain rfl : j = 0 := by omega
    obtain rfl : i = 0 := by omega
    obtain rfl : xs = [] := List.eq_nil_of_length_eq_zero (by omega)
    have HO := Lib.hid h
    clear h hx h1c
    go_enter Try.func39, Try.ntmps39
    go_wp2_with fail
    go_ret
    exact ⟨_, rfl, HO.out, Kept.refl _ _, rfl⟩
  · obtain ⟨_, _, hcm, _, cs, hr, hcl, hct⟩ := own_row h
    refine (delete_dus g n cap i j cs w hr hcl hnc hcm hij hj (fun u hu => h1c u (by rw [← hct]; exact hu))).mono ?_
    rintro e w' ⟨rfl, hk, cs', hr', hl', ht'⟩
    refine ⟨_, rfl, ?_, hk.mono (fun x _ hx => by rw [show x = g from hx]; rfl), rfl⟩
    refine row_own hg (by omega) hcm hr' (by rw [hl', hcl]) ?_
    rw [ht', hct]
    have : cs.take (i * 3) = xs.take (i * 3) := by rw [← hct, List.take_take, Nat.min_eq_left (by omega)]
    rw [this]
theorem advc_dus (x : Du) (Z b : Nat) (now : Int) (W : World) (hZ : Z < W.heap.size) (cZ : W.cell? ⟨Z, 0, none⟩ = some (.pointer (some ⟨b, 0, none⟩))) (hb : b < W.heap.size) (c1 : W.cell? ⟨b, 1, none⟩ = some (.int .i64 now)) :
    Calls Try.prog 37 (#[.agg #[.int .i64 x.at', .int .i64 x.id, x.v]] ++ #[.pointer (some ⟨Z, 0, none⟩)]) W fun e w' => e = .returned (.bool (decide (now < x.at'))) ∧ Below W.heap.size W w' := by
  show Calls Try.prog 37 #[.agg #[.int .i64 x.at', .int .i64 x.id, x.v], .pointer (some ⟨Z, 0, none⟩)] W _
  have OX := Lib.hid (Ob.new W #[.int .i64 x.at', .int .i64 x.id, x.v] 63)
  have HB := Lib.hid ((Below.refl W.heap.size W).alloc (Nat.le_refl _) (.cells #[.int .i64 x.at', .int .i64 x.id, x.v] 63))
  have cZ1 := (HB.out.cell (p := ⟨Z, 0, none⟩) hZ).trans cZ
  have cb1 := (HB.out.cell (p := ⟨b, 1, none⟩) hb).trans c1
  have sZ := HB.out.size
  clear cZ c1
  go_enter Try.func37, Try.ntmps37
  go_wp2_with fail
  generalize W.alloc (.cells #[.int .i64 x.at', .int .i64 x.id, x.v] 63) = W1 at *
  obtain ⟨lx, cx, _⟩ := OX.out.blk
  have cx0 : W1.cell? ⟨W.heap.size, 0, none⟩ = some (.int .i64 x.at') := cx 0
  have lZ : Z < W1.heap.size := by omega
  have lb : b < W1.heap.size := by omega
  clear cx
  refine wp_region_quiet_lit (by kernel_rfl) (by kernel_rfl) ?_
  try simp only [List.append]
  repeat (first | go_big_quiet_step (fail) | quiet_step (fail))
  refine wpQuiet_nil ?_
  intro W2 hW2
  have hb2 : Below W.heap.size W W2 := by obtain ⟨n9, rfl⟩ := hW2; exact below_dn HB.out
  go_wp2_with fail
  go_ret
  exact ⟨rfl, hb2⟩
set_option maxRecDepth 100000 in
set_option maxHeartbeats 4000000 in
theorem adv_dus (b B0 : Nat) (V : Value) (s : Wl) (tn : Int) (w : World) (h : Wh 75 63 b B0 V s w) (ho : s.ok) :
    Calls Try.prog 22 #[.pointer (some ⟨b, 0, none⟩), .int .i64 tn] w fun e w' => ∃ v', e = .returned v' ∧ w'.ownsRow w.heap.size 63 3 v' (s.out tn).length ((s.out tn).flatMap Du.row) ∧ WhPostS 75 63 b B0 V (s.goes tn) w w' := by
  have HW := Lib.hid h
  have HO := Lib.hid ho
  clear h ho
  obtain ⟨a, c, hv, _, _⟩ := (Rd.of_own HW.out.own).form
  have HV := Lib.hid hv
  clear hv
  have lbw := HW.out.ob.lt
  have HZ := Lib.hid (Ob.new w #[.pointer (some ⟨b, 0, none⟩)] 56)
  have HW1 := Lib.hid (HW.out.alloc (.cells #[.pointer (some ⟨b, 0, none⟩)] 56))
  have HK1 := Lib.hid ((Kept.refl (WM b V) w).alloc (.cells #[.pointer (some ⟨b, 0, none⟩)] 56))
  go_enter Try.func22, Try.ntmps22
  go_upto_region 1 with fail
  generalize w.alloc (.cells #[.pointer (some ⟨b, 0, none⟩)] 56) = w1 at *
  obtain ⟨lz, cz, fz⟩ := HZ.out.blk
  obtain ⟨lb, cb, fb⟩ := HW1.out.ob.blk
  have cz0 : w1.cell? ⟨w.heap.size, 0, none⟩ = some (.pointer (some ⟨b, 0, none⟩)) := cz 0
  have c1 : w1.cell? ⟨b, 1, none⟩ = some (.int .i64 s.now) := cb 1
  clear cz cb
  go_wp2_with fail
  refine region_tail 9 (by kernel_rfl) (by kernel_rfl) ?_
  simp only [List.take_succ_cons, List.take_zero, List.drop_succ_cons, List.drop_zero]
  repeat (first | still_step | still_call (still (clamp_any _ _ _ _)))
  refine wpStill_nil ?_
  obtain ⟨N, HN⟩ : ∃ N, Hid (s.then' tn = N) := ⟨_, Lib.hid rfl⟩
  have hN : clampI tn s.now 1125899906842624 = N := HN.out
  rw [hN]
  have ob2 := Lib.hid ((Ob.cast (HW1.out.ob.set 1 (.int .i64 N)) (show _ = #[.int .i64 s.most, .int .i64 N, .int .i64 s.last, V] from rfl)).drew)
  have HK2 := Lib.hid ((HK1.out.set ⟨b, 1, none⟩ (.int .i64 N) (fun _ => .inl rfl)).drewR)
  have ow2 := Lib.hid (own_kept HW1.out.own (((Kept.refl (Only b) w1).setO (i := 1) (v := .int .i64 N)).drewR) (fun y hy hh => HW.out.ne (by rw [hy, show y = b from hh])))
  have HZ2 := Lib.hid (HZ.out.kept (((Kept.refl (Only b) w1).setO (i := 1) (v := .int .i64 N)).drewR) (fun hh => by have : w.heap.size = b := hh; omega))
  clear hN
  go_upto_region 4 with fail
  generalize (w1.setCell ⟨b, 1, none⟩ (.int .i64 N)).drew = W2 at *
  clear lz fz lb fb cz0 c1
  obtain ⟨lz, cz, fz⟩ := HZ2.out.blk
  obtain ⟨lb, cb, fb⟩ := ob2.out.blk
  have cz0 : W2.cell? ⟨w.heap.size, 0, none⟩ = some (.pointer (some ⟨b, 0, none⟩)) := cz 0
  have c3 : W2.cell? ⟨b, 3, none⟩ = some (.slice a s.l.length c) := by rw [cb 3, HV.out]; rfl
  clear cz cb
  have hrd := Rd.of_own ow2.out
  rw [HV.out] at hrd
  have hlen : s.l.length ≤ 100000 := by have := HO.out.ln; have := HO.out.a1; omega
  go_wp2_with fail
  refine (index_dus 37 #[.pointer (some ⟨w.heap.size, 0, none⟩)] (fun y => decide (N < y.at')) s.l _ _ (enters_of Try.func37 (by kernel_rfl) rfl) hrd (by omega) (fun W x hB => by
    have h1 := (HZ2.out.below hB).blk
    have h2 := (ob2.out.below hB).blk
    exact advc_dus x w.heap.size b N W h1.1 (h1.2.1 0) h2.1 (h2.2.1 1))).mono ?_
  rintro e W3 ⟨hb3, hfind⟩
  have HRD := Lib.hid hrd
  have hk3 := Kept.of_below (M := fun _ => False) hb3
  have ob3 := Lib.hid (ob2.out.kept hk3 id)
  have HZ3 := Lib.hid (HZ2.out.kept hk3 id)
  have ow3 := Lib.hid (own_kept ow2.out hk3 (fun _ _ hh => hh))
  have HK3 := Lib.hid (HK2.out.trans (hk3.mono (N := WM b V) fun _ _ h => h.elim))
  obtain ⟨K, r, hr, hKr, hKc⟩ : ∃ (K : Nat) (r : Int), e = .returned (.int .i64 r) ∧ ((r = -1 ∧ K = s.l.length) ∨ (r = (K : Int))) ∧ K ≤ s.l.length ∧ s.cnt N = K := by
    rcases hfind with ⟨rfl, h⟩ | ⟨i, rfl, h1, h2⟩
    · exact ⟨s.l.length, -1, rfl, .inl ⟨rfl, rfl⟩, Nat.le_refl _, cnt_all h⟩
    · exact ⟨i, i, rfl, .inr rfl, Nat.le_of_lt h1.1, cnt_find HO.out.up h1 h2⟩
  subst hr
  obtain ⟨hKl, hKc⟩ := hKc
  have HKC := Lib.hid hKc
  clear hfind hb3 hk3 hrd hKc cz0 c3 lz fz lb fb
  obtain ⟨lz, cz, fz⟩ := HZ3.out.blk
  obtain ⟨lb, cb, fb⟩ := ob3.out.blk
  have cz0 : W3.cell? ⟨w.heap.size, 0, none⟩ = some (.pointer (some ⟨b, 0, none⟩)) := cz 0
  have c3 : W3.cell? ⟨b, 3, none⟩ = some (.slice a s.l.length c) := by rw [cb 3, HV.out]; rfl
  clear cz cb
  go_upto_if 25 with fail
  go_cut [5] from 7 (fun s5 wx => s5 = .int .i64 (K : Int) ∧ wx = W3)
  case first =>
    rcases hKr with ⟨rfl, rfl⟩ | rfl
    · go_wp2_with fail
      go_meet
      exact ⟨rfl, rfl⟩
    · go_wp2_with fail
      go_meet
      exact ⟨rfl, rfl⟩
  case rest =>
  obtain ⟨rfl, rfl⟩ := hcut
  have hrd := Rd.of_own ow3.out
  rw [HV.out] at hrd
  have h1r := one_du HO.out.one
  have HT := Lib.hid (rd_tokD hrd K hKl)
  go_wp2_with fail
  refine (clone_dus _ K _ _ HT.out (one_du (fun x hx => HO.out.one x (List.mem_of_mem_take hx))) (by omega)).mono ?_
  rintro e W4 ⟨v6, rfl, hv6, hb6⟩
  have hk6 := Kept.of_below (M := fun _ => False) hb6
  have ob6 := Lib.hid (ob3.out.kept hk6 id)
  have HZ6 := Lib.hid (HZ3.out.kept hk6 id)
  have ow6 := Lib.hid (own_kept ow3.out hk6 (fun _ _ hh => hh))
  have HK6 := Lib.hid (HK3.out.trans (hk6.mono (N := WM b V) fun _ _ h => h.elim))
  have HV6 := Lib.hid hv6
  have hVb : ∀ x, V.ownBlock = some x → x < wc.heap.size := fun x hx => (own_lt ow3.out x hx).2
  have hVB := Lib.hid hVb
  have hbw := ob3.out.lt
  have hVZ : V.ownBlock ≠ some w.heap.size := fun hh => by have := (HW.out.lt _ (.inr hh)).2; omega
  clear hv6 hb6 hk6 hVb hrd cz0 c3 lz fz lb fb
  obtain ⟨lz, cz, fz⟩ := HZ6.out.blk
  obtain ⟨lb, cb, fb⟩ := ob6.out.blk
  have cz0 : W4.cell? ⟨w.heap.size, 0, none⟩ = some (.pointer (some ⟨b, 0, none⟩)) := cz 0
  have c3 : W4.cell? ⟨b, 3, none⟩ = some (.slice a s.l.length c) := by rw [cb 3, HV.out]; rfl
  clear cz cb
  go_wp2_with fail
  have nb := not_mad HW.out.ne lb
  have nz := not_mad hVZ lz
  refine wp_heads (M := (Mad V W4.heap.size)) 9 (by kernel_rfl) (by kernel_rfl) ?_
  refine hd_quiet [true, true, true, true, true, true, false, false, false, false] (by kernel_rfl) ?_
  simp only [pickAt]
  repeat (go_big_quiet_step (fail))
  refine wpQuiet_nil ?_
  refine hd_act 6 rfl (by kernel_rfl) ?_
  refine run_want rfl ?_
  intro A hA
  go_simp
  have hown := own_kept ow6.out (Kept.drew (fun _ => False) W4) (fun _ _ hh => hh)
  rw [HV.out] at hown
  refine (del_dus B0 _ s.l.length 0 K _ _ hown (Nat.zero_le _) hKl h1r).mono ?_
  rintro e w5 ⟨V5, rfl, ho5, hk5, hb5⟩
  obtain ⟨a5, c5, rfl, _, _⟩ := (Rd.of_own ho5).form
  have hk5' : Kept (Mad V W4.heap.size) W4.drew w5 := hk5.mono (fun y _ hy => .inl (by rw [HV.out]; exact hy))
  have ob5 := Lib.hid (ob6.out.drew.kept hk5 (fun hh => HW.out.ne (by rw [HV.out]; exact hh)))
  have HK5 := Lib.hid (HK6.out.drewR.trans (hk5.mono (N := WM b V) (fun x _ hx => .inr (by rw [HV.out]; exact hx))))
  have ho6 := own_kept (own_kept HV6.out (Kept.drew (fun _ => False) W4) (fun _ _ hh => hh)) hk5 (fun y hy hh => by
    have h1 := (own_lt HV6.out y hy).1
    have h2 := hVB.out y (by rw [HV.out]; exact hh)
    omega)
  have HO6 := Lib.hid (own_kept ho6 ((Kept.refl (Only b) w5).setO (i := 3) (v := .slice a5 (s.l.length - (K - 0)) c5)) (fun y hy hh => by
    have h1 := (own_lt HV6.out y hy).1
    have h2 : y = b := hh
    omega))
  have hcnt : s.cnt (s.then' tn) = K := by rw [HN.out, HKC.out]
  have hrow : (s.l.flatMap Du.row).take (0 * 3) ++ (s.l.flatMap Du.row).drop (K * 3) = (s.goes tn).l.flatMap Du.row := by
    show _ = (s.l.drop (s.cnt (s.then' tn))).flatMap Du.row
    rw [hcnt, flat_drop rowDu, Nat.zero_mul]; rfl
  have hln : s.l.length - (K - 0) = (s.goes tn).l.length := by
    show _ = (s.l.drop (s.cnt (s.then' tn))).length
    rw [hcnt, List.length_drop]; rfl
  have HP := Lib.hid (wh_storeS (s' := s.goes tn) HW.out HK5.out (by have h := ob5.out; rw [show (s.goes tn).now = N from HN.out]; exact h) ho5 (by rw [hb5, HV.out]) hrow hln)
  have hout : s.out tn = s.l.take K := by unfold Wl.out; rw [hcnt]
  have hol : (s.out tn).length = K := by rw [hout, List.length_take, Nat.min_eq_left hKl]
  have HOUT := Lib.hid hout
  have HOL := Lib.hid hol
  have lb5 := Lib.hid ob5.out.blk
  rw [Nat.sub_zero] at HP HO6
  refine hA _ _ (hk5') ?_
  try simp only [Act.put, List.setIfInBounds_toArray, List.set_cons_zero, List.set_cons_succ]
  clear A hA
  clear hk5 hk5' hb5 ho5 ho6 hown hrow hln hcnt hout hol
  refine hd_quiet [false, false, false, false, false, false, false, true, true, false] (by kernel_rfl) ?_
  simp only [pickAt]
  repeat (go_big_quiet_step (fail))
  refine wpQuiet_nil ?_
  clear lb fb c3 nb nz
  obtain ⟨lb, cb, fb⟩ := lb5.out
  have c35 := cb 3
  clear cb
  refine hd_tail rfl (by kernel_rfl) ?_
  simp only [List.drop_succ_cons, List.drop_zero]
  go_wp2_with fail
  refine NoPanic.normal ?_
  go_wp2_with fail
  go_ret
  exact ⟨v6, rfl, by rw [HOL.out, HOUT.out]; exact own_base HO6.out HK3.out.size, HP.out⟩
end Go.Proofs.Ytlibnjhoggfhfaa
