/- The reference's wheel (chapter 2): Add. -/
import Derived.Test.YtlibnjhoggfhfaaWheelR
namespace Go.Proofs.Ytlibnjhoggfhfaa
open Go.RowKit

theorem kept_new {M : Nat → Prop} {n : Nat} {w1 w2 w3 : World} (h : Kept M w1 w2) (k : Kept (Since n) w2 w3) (hn : w1.heap.size ≤ n) : Kept M w1 w3 :=
  ⟨k.os.trans h.os, k.tape.trans h.tape, k.output.trans h.output, Nat.le_trans h.size k.size, fun x hx hM => (k.block x (Nat.lt_of_lt_of_le hx h.size) (not_since (Nat.lt_of_lt_of_le hx hn))).trans (h.block x hx hM)⟩
theorem raddno (p : Option Addr) (at' z : Int) (w : World) (h : at' < 0 ∨ 1125899906842624 < at') : Calls Try.prog 15 #[.pointer p, .int .i64 at', .int .i64 z] w fun e w' => e = .returned (.tuple #[.int .i64 0, .int .i64 1]) ∧ w = w' := by
  rcases (by omega : at' < 0 ∨ (0 ≤ at' ∧ 1125899906842624 < at')) with h1 | ⟨h1, h2⟩
  all_goals
    clear h
    go_enter Try.func15, Try.ntmps15
    go_wp2_with fail
    go_ret2
    exact ⟨rfl, rfl⟩
theorem raddfull (b B0 : Nat) (V : Value) (s : Wl) (at' z : Int) (w : World) (h : Wh TRW TRD b B0 V s w) (a0 : 0 ≤ at') (a1 : at' ≤ 1125899906842624) (hr : s.most ≤ (s.l.length : Int)) :
    Calls Try.prog 15 #[.pointer (some ⟨b, 0, none⟩), .int .i64 at', .int .i64 z] w fun e w' => e = .returned (.tuple #[.int .i64 0, .int .i64 4]) ∧ Kept (fun _ => False) w w' := by
  obtain ⟨lb, cb, fb⟩ := h.ob.blk
  obtain ⟨a, c, hv, _, _⟩ := (Rd.of_own h.own).form
  subst hv
  have c0 := cb 0
  have c3 := cb 3
  clear cb h
  go_enter Try.func15, Try.ntmps15
  go_wp2_with fail
  refine wp_region_quiet_lit (by kernel_rfl) (by kernel_rfl) ?_
  try simp only [List.append]
  repeat (first | go_big_quiet_step (fail) | quiet_step (fail))
  refine wpQuiet_nil ?_
  intro W hW
  have hkW := kept_ex hW
  clear hW
  go_wp2_with fail
  go_ret2
  exact ⟨rfl, hkW⟩
set_option maxRecDepth 100000 in
set_option maxHeartbeats 4000000 in
theorem radd (b B0 : Nat) (V : Value) (s : Wl) (at' : Int) (z : Int) (w : World) (h : Wh TRW TRD b B0 V s w) (ho : s.ok) (a0 : 0 ≤ at') (a1 : at' ≤ 1125899906842624) (hr : (s.l.length : Int) < s.most) (hl : s.last < 1000000000) :
    Calls Try.prog 15 #[.pointer (some ⟨b, 0, none⟩), .int .i64 at', .int .i64 z] w fun e w' => e = .returned (.tuple #[.int .i64 (s.last + 1), .int .i64 0]) ∧ WhPost TRW TRD b B0 V (s.plus at' (.int .i64 z)) w w' := by
  have HW := Lib.hid h
  have HO := Lib.hid ho
  have t0 := ho.t0
  have a2 := ho.a1
  have n0 := ho.n0
  have n1 := ho.n1
  clear h ho
  obtain ⟨a, c, hv, _, _⟩ := (Rd.of_own HW.out.own).form
  have HV := Lib.hid hv
  obtain ⟨lb, cb, fb⟩ := HW.out.ob.blk
  have c0 := cb 0
  have c2 := cb 2
  have c3 := cb 3
  rw [hv] at c0 c2 c3
  clear cb hv
  have hd : decide (s.most ≤ (s.l.length : Int)) = false := decide_eq_false (by omega)
  have hlen : s.l.length ≤ 100000 := by omega
  go_enter Try.func15, Try.ntmps15
  go_wp2_with fail
  refine wp_region_quiet_lit (by kernel_rfl) (by kernel_rfl) ?_
  try simp only [List.append]
  repeat (first | go_big_quiet_step (fail) | quiet_step (fail))
  refine wpQuiet_nil ?_
  intro W hW
  have hkW := kept_ex hW
  have HW1 := Lib.hid (HW.out.keptF hkW)
  have HK1 := Lib.hid (hkW.mono (N := WM b V) fun _ _ h => h.elim)
  clear hkW hW c0 c2 c3 lb fb
  obtain ⟨lb, cb, fb⟩ := HW1.out.ob.blk
  have c2 : W.cell? ⟨b, 2, none⟩ = some (.int .i64 s.last) := cb 2
  clear cb
  go_wp2_with fail
  have ob2 := Lib.hid (Ob.cast (HW1.out.ob.set 2 (.int .i64 (s.last + 1))) (show _ = #[.int .i64 s.most, .int .i64 s.now, .int .i64 (s.last + 1), V] from rfl))
  have HK2 := Lib.hid (HK1.out.set ⟨b, 2, none⟩ (.int .i64 (s.last + 1)) (fun _ => .inl rfl))
  have ow2 := Lib.hid (own_kept HW1.out.own ((Kept.refl (Only b) W).setO (i := 2) (v := .int .i64 (s.last + 1))) (fun y hy hh => HW.out.ne (by rw [hy, show y = b from hh])))
  generalize W.setCell ⟨b, 2, none⟩ (.int .i64 (s.last + 1)) = W2 at *
  clear c2 lb fb
  obtain ⟨lb, cb, fb⟩ := ob2.out.blk
  have c1 : W2.cell? ⟨b, 1, none⟩ = some (.int .i64 s.now) := cb 1
  have c2 : W2.cell? ⟨b, 2, none⟩ = some (.int .i64 (s.last + 1)) := cb 2
  have c3 : W2.cell? ⟨b, 3, none⟩ = some (.slice a s.l.length c) := by rw [cb 3, HV.out]; rfl
  clear cb
  have nb := not_since lb
  refine wp_heads (M := (Since W2.heap.size)) 13 (by kernel_rfl) (by kernel_rfl) ?_
  refine hd_quiet [true, true, true, true, true, true, true, true, true, true, true, true, false, false] (by kernel_rfl) ?_
  simp only [pickAt]
  repeat (go_big_quiet_step (fail))
  refine wpQuiet_nil ?_
  refine hd_act 12 rfl (by kernel_rfl) ?_
  refine run_want rfl ?_
  intro A hA
  go_simp
  refine hA _ _ (((Kept.refl _ _).alloc _)) ?_
  try simp only [Act.put, List.setIfInBounds_toArray, List.set_cons_zero, List.set_cons_succ]
  clear A hA
  refine hd_quiet [false, false, false, false, false, false, false, false, false, false, false, false, false, false] (by kernel_rfl) ?_
  simp only [pickAt]
  repeat (go_big_quiet_step (fail))
  refine wpQuiet_nil ?_
  refine hd_tail rfl (by kernel_rfl) ?_
  simp only [List.drop_succ_cons, List.drop_zero]
  go_wp2_with fail
  have HZ3 := Lib.hid ((Ob.new W2 #[.int .i64 (max at' s.now), .int .i64 (s.last + 1), .int .i64 z] TRD).drew)
  have ob3 := Lib.hid ((ob2.out.alloc (.cells #[.int .i64 (max at' s.now), .int .i64 (s.last + 1), .int .i64 z] TRD)).drew)
  have HK3 := Lib.hid ((HK2.out.alloc (.cells #[.int .i64 (max at' s.now), .int .i64 (s.last + 1), .int .i64 z] TRD)).drewR)
  have ow3 := Lib.hid (own_kept ow2.out (((Kept.refl (fun _ => False) W2).alloc (.cells #[.int .i64 (max at' s.now), .int .i64 (s.last + 1), .int .i64 z] TRD)).drewR) (fun _ _ hh => hh))
  have hZw : w.heap.size ≤ W2.heap.size := HK2.out.size
  have hbZ : b ≠ W2.heap.size := by have := ob2.out.lt; omega
  have hVZ : V.ownBlock ≠ some W2.heap.size := fun hh => by have := (HW.out.lt _ (.inr hh)).2; omega
  refine NoPanic.normal ?_
  generalize (W2.alloc (.cells #[.int .i64 (max at' s.now), .int .i64 (s.last + 1), .int .i64 z] TRD)).drew = W3 at *
  generalize W2.heap.size = Z at *
  clear c1 c2 c3 lb fb nb
  obtain ⟨lb, cb, fb⟩ := ob3.out.blk
  have c3 : W3.cell? ⟨b, 3, none⟩ = some (.slice a s.l.length c) := by rw [cb 3, HV.out]; rfl
  obtain ⟨lz, cz, fz⟩ := HZ3.out.blk
  clear cb
  obtain ⟨h1p, h2p, h3p⟩ := pos_splitD HO.out.up (⟨max at' s.now, s.last + 1, .int .i64 z⟩ : Du)
  obtain ⟨K, HKE⟩ : ∃ K, Hid (s.pos ⟨max at' s.now, s.last + 1, .int .i64 z⟩ = K) := ⟨_, Lib.hid rfl⟩
  have hK0 : K ≤ s.l.length := by rw [← HKE.out]; exact h1p
  have HTK : Hid (∀ x ∈ s.l.take K, x.at' ≤ max at' s.now) := Lib.hid (fun x hx => by
    rw [← HKE.out] at hx
    have h4 := h2p x hx
    unfold Du.lt at h4
    have h4 : x.at' < max at' s.now ∨ x.at' = max at' s.now ∧ x.id < s.last + 1 := h4
    omega)
  have HDR : Hid (∀ x ∈ s.l.drop K, max at' s.now < x.at') := Lib.hid (fun x hx => by
    rw [← HKE.out] at hx
    have h4 := h3p x hx
    have h5 := (HO.out.ids x (List.mem_of_mem_drop hx)).2
    unfold Du.lt at h4
    have h4 : ¬ (x.at' < max at' s.now ∨ x.at' = max at' s.now ∧ x.id < s.last + 1) := h4
    omega)
  clear h1p h2p h3p
  go_wp2_with fail
  go_loopw [9] (fun i wr => ∃ k : Nat, i = .int .i64 k ∧ K ≤ k ∧ k ≤ s.l.length ∧ Kept (fun _ => False) W3 wr) (fun i _ => (intOf i).toNat)
  case atStart => exact ⟨s.l.length, rfl, hK0, Nat.le_refl _, Kept.refl _ _⟩
  case round =>
    obtain ⟨k, rfl, hk, hkl, hkp⟩ := hrel
    have ob4 := Lib.hid (ob3.out.kept hkp id)
    have HZ4 := Lib.hid (HZ3.out.kept hkp id)
    have ow4 := Lib.hid (own_kept ow3.out hkp (fun _ _ h => h))
    have HKP := Lib.hid hkp
    clear c3 lb fb lz cz fz
    obtain ⟨lb, cb, fb⟩ := ob4.out.blk
    have c3 : wr.cell? ⟨b, 3, none⟩ = some (.slice a s.l.length c) := by rw [cb 3, HV.out]; rfl
    obtain ⟨lz, cz, fz⟩ := HZ4.out.blk
    have cz0 : wr.cell? ⟨Z, 0, none⟩ = some (.int .i64 (max at' s.now)) := cz 0
    have hrd := Rd.of_own ow4.out
    rw [HV.out] at hrd
    clear hkp cb cz
    rcases Nat.lt_or_ge K k with hlt | hlt
    · obtain ⟨j, rfl⟩ : ∃ m, k = m + 1 := ⟨k - 1, by omega⟩
      obtain ⟨g, o, he, hg, cwa⟩ := Rd.row rowDu (by decide) hrd j (by omega)
      have c0 := cwa 0 (.int .i64 s.l[j].at') rfl
      rw [Nat.add_zero] at c0
      have hat : max at' s.now < s.l[j].at' := HDR.out _ (by rw [List.mem_drop_iff_getElem]; exact ⟨j - K, by omega, by congr 1; omega⟩)
      rw [he] at c3
      have hkc : (((j + 1 : Nat) : Int) - 1) = (j : Int) := by omega
      have hkx : IntKind.i64.wrap (((j + 1 : Nat) : Int) - 1) = (j : Int) := by rw [IntKind.wrap_i64]; omega
      have hki : ((j : Int) + 1 - 1) = (j : Int) := by omega
      have hkw : IntKind.i64.wrap ((j : Int) + 1 - 1) = (j : Int) := by rw [IntKind.wrap_i64]; omega
      have hk0 : decide ((0 : Int) < (j : Int) + 1) = true := decide_eq_true (by omega)
      have hk1 : decide ((0 : Int) < ((j + 1 : Nat) : Int)) = true := decide_eq_true (by omega)
      have hjm : (j : Int) < s.l.length := by omega
      generalize s.l[j].at' = y at *
      clear cwa hrd he
      go_wp2_with fail
      refine wp_region_quiet_lit (by kernel_rfl) (by kernel_rfl) ?_
      try simp only [List.append]
      repeat (first | go_big_quiet_step (fail) | quiet_step (fail))
      refine wpQuiet_nil ?_
      intro W9 hW9
      have hkW := kept_ex hW9
      have HKW := Lib.hid (HKP.out.trans hkW)
      clear hkW hW9
      go_wp2_with fail
      go_roundw
      case rel => exact ⟨j, by go_num, by omega, by omega, HKW.out⟩
      case measure => simp [intOf]
    · obtain rfl : k = K := by omega
      rcases (by omega : k = 0 ∨ 0 < k) with h0 | h0
      iterate 2
        · first
            | (have h0' : 0 < k := h0
               obtain ⟨j, hj⟩ : ∃ j, k = j + 1 := ⟨k - 1, by omega⟩
               have hjl : j < s.l.length := by omega
               obtain ⟨g, o, he, hg, cwa⟩ := Rd.row rowDu (by decide) hrd j hjl
               have c0 := cwa 0 (.int .i64 s.l[j].at') rfl
               rw [Nat.add_zero] at c0
               have hat : s.l[j].at' ≤ max at' s.now := HTK.out _ (by rw [List.mem_take_iff_getElem]; exact ⟨j, by omega, rfl⟩)
               rw [he] at c3
               have hkc : ((k : Int) - 1) = (j : Int) := by omega
               have hkx : IntKind.i64.wrap ((k : Int) - 1) = (j : Int) := by rw [IntKind.wrap_i64]; omega
               have hjm : (j : Int) < s.l.length := by omega
               have HJ := Lib.hid hj
               clear hj
               generalize s.l[j].at' = y at *
               clear cwa he)
            | (have hk0 : decide (0 < k) = false := decide_eq_false (by omega)
               have HJ := Lib.hid h0
               clear h0)
          clear hrd
          go_wp2_with fail
          refine wp_region_quiet_lit (by kernel_rfl) (by kernel_rfl) ?_
          try simp only [List.append]
          repeat (first | go_big_quiet_step (fail) | quiet_step (fail))
          refine wpQuiet_nil ?_
          intro W hW
          have hkW := kept_ex hW
          have ob5 := Lib.hid (ob4.out.kept hkW id)
          have HZ5 := Lib.hid (HZ4.out.kept hkW id)
          have ow5 := Lib.hid (own_kept ow4.out hkW (fun _ _ h => h))
          have HK5 := Lib.hid (HK3.out.trans (kept_any (M := WM b V) (HKP.out.trans hkW)))
          have hrd5 := Rd.of_own ow5.out
          rw [HV.out] at hrd5
          have HRD := Lib.hid hrd5
          clear hkW hW c3 fb lb lz fz hrd5 cz0
          obtain ⟨lb, cb, fb⟩ := ob5.out.blk
          obtain ⟨lz, cz, fz⟩ := HZ5.out.blk
          have c3 : W.cell? ⟨b, 3, none⟩ = some (.slice a s.l.length c) := by rw [cb 3, HV.out]; rfl
          have E0 : Hid ((W.alloc (.cells #[] TRD)).ownsRow W.heap.size TRD 3 (.slice (some ⟨W.heap.size, 0, none⟩) 0 0) 0 []) := Lib.hid (World.ownsRow_made (base := W.heap.size) (e := TRD) (size := 3) W #[] 0 (by simp) (by decide) rfl)
          have R0 := Lib.hid ((rd_tokD HRD.out k (by omega)).alloc (.cells #[] TRD))
          have h1t := one_du (l := s.l.take k) (fun x hx => HO.out.one x (List.mem_of_mem_take hx))
          have h1d := one_du (l := s.l.drop k) (fun x hx => HO.out.one x (List.mem_of_mem_drop hx))
          clear cb cz
          go_wp2_with (first
            | (refine wpList_slTo rfl _ _ _ rfl Try.underlying42 info_red rfl rfl (by omega) ?_)
            | (at_builtin; refine wpList_appAt rfl (.tmp 69) (.tmp 75) 42 rfl info_red Try.underlying42 rfl (by decide) E0.out R0.out rfl rfl h1t (by omega) (by rw [World.size_alloc]; omega) ?_; intro v8 w8 ho8 hg8 hb8; have B8 := Lib.hid (((Below.refl W.heap.size W).alloc (Nat.le_refl _) (.cells #[] TRD)).grown hg8 (by rw [World.size_alloc]; omega) (fun y hy => (E0.out.lt y hy).1)); have HO8 := Lib.hid ho8; clear ho8 hg8 hb8))
          have s8 := B8.out.size
          have ob8 := Lib.hid (ob5.out.below B8.out)
          have HZ8 := Lib.hid (HZ5.out.below B8.out)
          have ow8 := Lib.hid (own_kept ow5.out (Kept.of_below (M := fun _ => False) B8.out) (fun _ _ h => h))
          have HK8 := Lib.hid (HK5.out.trans (kept_any (M := WM b V) (Kept.of_below B8.out)))
          have nb := not_since lb
          have nz := not_since lz
          clear c3 lb fb lz fz
          obtain ⟨lb, cb, fb⟩ := ob8.out.blk
          obtain ⟨lz, cz, fz⟩ := HZ8.out.blk
          have c3 : w8.cell? ⟨b, 3, none⟩ = some (.slice a s.l.length c) := by rw [cb 3, HV.out]; rfl
          clear cb
          refine wp_heads (M := (Since W.heap.size)) 14 (by kernel_rfl) (by kernel_rfl) ?_
          refine hd_quiet [true, true, true, false, false, true, true, true, true, true, true, false, false, false, false] (by kernel_rfl) ?_
          simp only [pickAt]
          repeat (go_big_quiet_step (fail))
          refine wpQuiet_nil ?_
          refine hd_act 3 rfl (by kernel_rfl) ?_
          refine run_want rfl ?_
          intro A hA
          go_simp
          have O9 := Lib.hid (own_kept HO8.out (((Kept.refl (fun _ => False) w8).drewR).alloc (.cells #[.int .i64 (max at' s.now), .int .i64 (s.last + 1), .int .i64 z] TRD)) (fun _ _ h => h))
          have R9 := Lib.hid (Rd.one (k := 3) w8.drew #[.int .i64 (max at' s.now), .int .i64 (s.last + 1), .int .i64 z] TRD rfl)
          have K9 := Lib.hid (((Kept.refl (fun _ => False) w8).drewR).alloc (.cells #[.int .i64 (max at' s.now), .int .i64 (s.last + 1), .int .i64 z] TRD))
          refine hA _ _ ((Kept.refl _ _).alloc _) ?_
          try simp only [Act.put, List.setIfInBounds_toArray, List.set_cons_zero, List.set_cons_succ]
          clear A hA
          refine hd_quiet [false, false, false, false, false, false, false, false, false, false, false, false, false, false, false] (by kernel_rfl) ?_
          simp only [pickAt]
          repeat (go_big_quiet_step (fail))
          refine wpQuiet_nil ?_
          refine hd_act 4 rfl (by kernel_rfl) ?_
          refine run_want rfl ?_
          intro A hA
          refine wp_appAt (.tmp 78) (.tmp 80) 42 (by rfl) info_red Try.underlying42 rfl (by decide) O9.out R9.out (by rfl) (by rfl) (by simp [Value.oneCell']) (by omega) (Nat.le_trans s8 K9.out.size) ?_
          intro v10 w10 ho10 hg10 hb10
          have s9 := K9.out.size
          have G10 := Kept.of_grown (M := Since W.heap.size) hg10 fun y hy => (O9.out.lt y hy).1
          have K10 := Lib.hid ((kept_any (M := Since W.heap.size) K9.out).trans G10)
          have HO10 := Lib.hid ho10
          refine hA _ _ (G10) ?_
          try simp only [Act.put, List.setIfInBounds_toArray, List.set_cons_zero, List.set_cons_succ]
          clear A hA
          clear ho10 hg10 hb10 G10
          have s10 := K10.out.size
          have hVW : ∀ x, V.ownBlock = some x → x < W.heap.size := fun x hx => (own_lt ow5.out x hx).2
          have hbW : b < W.heap.size := ob5.out.lt
          have hZW : Z < W.heap.size := HZ5.out.lt
          have hrd10 := Rd.of_own (own_kept ow8.out K10.out (fun y hy (hh : W.heap.size ≤ y) => by have := hVW y hy; omega))
          rw [HV.out] at hrd10
          have R11 := Lib.hid ((rd_behindD hrd10 k (by omega)))
          clear hrd10
          refine hd_quiet [false, false, false, false, false, false, false, false, false, false, false, false, false, false, false] (by kernel_rfl) ?_
          simp only [pickAt]
          repeat (go_big_quiet_step (fail))
          refine wpQuiet_nil ?_
          refine hd_act 11 rfl (by kernel_rfl) ?_
          refine run_want rfl ?_
          intro A hA
          refine wp_appAt (.tmp 81) (.tmp 87) 42 (by rfl) info_red Try.underlying42 rfl (by decide) HO10.out R11.out (by rfl) (by rfl) h1d (by omega) (Nat.le_trans s8 K10.out.size) ?_
          intro v12 w12 ho12 hg12 hb12
          have G12 := Kept.of_grown (M := Since W.heap.size) hg12 fun y hy => (HO10.out.lt y hy).1
          have K12 := Lib.hid (K10.out.trans G12)
          rw [Nat.zero_add, List.nil_append] at ho12
          obtain ⟨a12, c12, hv12, _, _⟩ := (Rd.of_own ho12).form
          subst hv12
          have HO12 := Lib.hid ho12
          refine hA _ _ (G12) ?_
          try simp only [Act.put, List.setIfInBounds_toArray, List.set_cons_zero, List.set_cons_succ]
          clear A hA
          clear ho12 hg12 hb12 G12
          clear c3 lb fb lz fz cz
          have ob12 := Lib.hid (ob8.out.kept K12.out nb)
          have HZ12 := Lib.hid (HZ8.out.kept K12.out nz)
          have HK12 := Lib.hid (kept_new HK8.out K12.out HK5.out.size)
          obtain ⟨lb, cb, fb⟩ := ob12.out.blk
          have c3 : w12.cell? ⟨b, 3, none⟩ = some V := cb 3
          clear cb
          have hpl : (s.plus at' (.int .i64 z)).l = s.l.take k ++ [⟨max at' s.now, s.last + 1, .int .i64 z⟩] ++ s.l.drop k := by unfold Wl.plus; rw [HKE.out]
          have HPL := Lib.hid hpl
          clear hpl
          have HP := Lib.hid (wh_store (s' := (s.plus at' (.int .i64 z))) HW.out HK12.out ob12.out (own_base HO12.out (by have := HW.out.bb; have := HW.out.ob.lt; have := HK5.out.size; omega)) (.inr fun x hx => Nat.le_trans HK5.out.size (HO12.out.lt x hx).1)
            (by rw [HPL.out, List.flatMap_append, List.flatMap_append]; rfl) (by rw [HPL.out, insd_len hK0]; omega))
          have lz12 := HZ12.out.lt
          have hZ1 : (w12.setCell ⟨b, 3, none⟩ (.slice a12 (k + 1 + (s.l.length - k)) c12)).cell? ⟨Z, 1, none⟩ = some (.int .i64 (s.last + 1)) := by
            have h := ((Kept.refl (Only b) w12).setO (i := 3) (v := .slice a12 (k + 1 + (s.l.length - k)) c12))
            exact (HZ12.out.kept h (fun hh => hbZ hh.symm)).blk.2.1 1
          refine hd_quiet [false, false, false, false, false, false, false, false, false, false, false, false, true, true, false] (by kernel_rfl) ?_
          simp only [pickAt]
          repeat (go_big_quiet_step (fail))
          refine wpQuiet_nil ?_
          refine hd_tail rfl (by kernel_rfl) ?_
          simp only [List.drop_succ_cons, List.drop_zero]
          go_wp2_with fail
          all_goals refine NoPanic.normal ?_
          all_goals go_wp2_with fail
          all_goals go_ret2
          all_goals exact ⟨rfl, HP.out⟩
end Go.Proofs.Ytlibnjhoggfhfaa
