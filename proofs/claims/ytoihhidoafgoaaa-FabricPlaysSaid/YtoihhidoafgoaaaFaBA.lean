/- The document's net (chapter 14). -/
import Derived.Test.YtoihhidoafgoaaaMA
import Derived.Test.YtoihhidoafgoaaaMD
namespace Go.Proofs.Ytoihhidoafgoaaa
open Go.RowKit

abbrev TMn : TypeId := 96
def Mn (nb H S : Nat) (w : World) : Prop := Ob w nb #[.int .i64 H, .int .i64 (lvs H), .int .i64 S] TMn
theorem Mn.cells {nb H S : Nat} {w : World} (h : Mn nb H S w) : nb < w.heap.size ∧ w.cell? ⟨nb, 0, none⟩ = some (.int .i64 H) ∧ w.cell? ⟨nb, 1, none⟩ = some (.int .i64 (lvs H)) ∧ w.cell? ⟨nb, 2, none⟩ = some (.int .i64 S) := by
  obtain ⟨a, b, _⟩ := Ob.blk h
  exact ⟨a, b 0, b 1, b 2⟩
theorem mtnew_no (H S : Int) (w : World) (h : ¬ ((2 ≤ H ∧ H ≤ 8) ∧ 1 ≤ S ∧ S ≤ 4)) : Calls Try.prog 48 #[.int .i64 H, .int .i64 S] w fun e w' => e = .returned (.tuple #[.pointer none, .int .i64 1]) ∧ w = w' := by
  have h2 : H < 2 ∨ (2 ≤ H ∧ 8 < H) ∨ ((2 ≤ H ∧ H ≤ 8) ∧ S < 1) ∨ ((2 ≤ H ∧ H ≤ 8) ∧ 1 ≤ S ∧ 4 < S) := by omega
  clear h
  rcases h2 with h1 | ⟨h1, h2⟩ | ⟨⟨h1, h2⟩, h3⟩ | ⟨⟨h1, h2⟩, h3, h4⟩
  all_goals
    go_enter Try.func48, Try.ntmps48
    go_wp2_with fail
    go_ret2
    exact ⟨rfl, rfl⟩
theorem mtnew_yes (H S : Nat) (w : World) (h : Hs H S) : Calls Try.prog 48 #[.int .i64 H, .int .i64 S] w fun e w' => e = .returned (.tuple #[.pointer (some ⟨w.heap.size, 0, none⟩), .int .i64 0]) ∧ Mn w.heap.size H S w' ∧ Below w.heap.size w w' := by
  obtain ⟨⟨h1, h2⟩, h3, h4⟩ := h
  go_enter Try.func48, Try.ntmps48
  go_wp2_with fail
  go_ret2
  have hq : ((H : Int) + 1) / 2 = (lvs H : Int) := by unfold lvs; omega
  have HO := Ob.new w #[.int .i64 H, .int .i64 (((H : Int) + 1) / 2), .int .i64 S] TMn
  rw [hq] at HO ⊢
  exact ⟨rfl, HO, (Below.refl _ _).alloc (Nat.le_refl _) _⟩
theorem mnet_ports (nb H S : Nat) (w : World) (h : Mn nb H S w) (hs : Hs H S) : Calls Try.prog 49 #[.pointer (some ⟨nb, 0, none⟩)] w fun e w' => e = .returned (.int .i64 (nP H S)) ∧ ∃ m, w' = w.drewN m := by
  obtain ⟨l0, c0, c1, c2⟩ := h.cells
  obtain ⟨h1, h2⟩ := hs.h
  obtain ⟨h3, h4⟩ := hs.s
  obtain ⟨h5, h6⟩ := hs.lv
  have hq : 2 * (lvs H : Int) * (S : Int) = 2 * ((lvs H * S : Nat) : Int) := by push_cast; rw [Int.mul_assoc]
  have hl := hs.ls
  have hb : 0 ≤ 2 * (lvs H : Int) * (S : Int) ∧ 2 * (lvs H : Int) * (S : Int) ≤ 64 := by omega
  go_enter Try.func49, Try.ntmps49
  go_wp2_with fail
  refine wp_region_quiet_lit (by kernel_rfl) (by kernel_rfl) ?_
  try simp only [List.append]
  repeat (first | go_big_quiet_step (fail) | quiet_step (fail))
  refine wpQuiet_nil ?_
  intro W hW
  go_wp2_with fail
  go_ret
  exact ⟨ret_int (by rw [nP_ls]; push_cast; omega), hW⟩
def MKind (a b c : Int) (w : World) (e : Ending) (w' : World) : Prop := e = .returned (.tuple #[.int .i64 a, .int .i64 b, .int .i64 c]) ∧ ∃ m, w' = w.drewN m
section
variable {nb H S p d k : Nat} {path : Int} {w : World}
theorem mkind1 (h : Mn nb H S w) (hs : Hs H S) (hp : p < H) : Calls Try.prog 79 #[.pointer (some ⟨nb, 0, none⟩), .int .i64 p] w (MKind 0 p 0 w) := by
  have hh := hs.h
  have hnp := hs.np
  have hls := hs.ls
  obtain ⟨hv1, hv2⟩ := hs.lv
  obtain ⟨hs1, hs4⟩ := hs.s
  have H1 := Lib.hid (nP_ls H S)
  have HM := Lib.hid (show (lvs H : Int) * (S : Int) = ((lvs H * S : Nat) : Int) by push_cast; rfl)
  have hmb : 0 ≤ (lvs H : Int) * (S : Int) ∧ (lvs H : Int) * (S : Int) ≤ 16 := by rw [HM.out]; omega
  have hb : ¬ (nP H S ≤ p) := by have := H1.out; omega
  obtain ⟨l0, c0, c1, c2⟩ := h.cells
  go_enter Try.func79, Try.ntmps79
  go_wp2_with fail
  refine wp_region_quiet_lit (by kernel_rfl) (by kernel_rfl) ?_
  try simp only [List.append]
  repeat (first | go_big_quiet_step (fail) | quiet_step (fail))
  refine wpQuiet_nil ?_
  intro W0 hW0
  have hN0 : Mn nb H S W0 := by obtain ⟨m, rfl⟩ := hW0; exact Ob.dn h
  have HW0 := Lib.hid hW0
  clear hW0
  go_wp2_with fail
  refine (mnet_ports nb H S W0 hN0 hs).mono ?_
  rintro e w1 ⟨rfl, hm1⟩
  have HM1 := Lib.hid hm1
  have hN : Mn nb H S w1 := by obtain ⟨m, rfl⟩ := hm1; exact Ob.dn hN0
  clear hm1 l0 c0 c1 c2
  obtain ⟨l0, c0, c1, c2⟩ := hN.cells
  go_wp2_with fail
  refine done (.tuple #[.int .i64 0, .int .i64 p, .int .i64 0]) rfl (by simp [results, Try.results79, go_sem]) ⟨rfl, by obtain ⟨m, rfl⟩ := HW0.out; obtain ⟨m2, rfl⟩ := HM1.out; exact ⟨m + m2, by rw [World.drewN_drewN]⟩⟩
theorem mkind2 (h : Mn nb H S w) (hs : Hs H S) (hp : H ≤ p) (hp2 : p < 2 * H) : Calls Try.prog 79 #[.pointer (some ⟨nb, 0, none⟩), .int .i64 p] w (MKind 1 (((p - H) / 2 : Nat) : Int) ((p - H : Nat) : Int) w) := by
  have hh := hs.h
  have hnp := hs.np
  have hls := hs.ls
  obtain ⟨hv1, hv2⟩ := hs.lv
  obtain ⟨hs1, hs4⟩ := hs.s
  have H1 := Lib.hid (nP_ls H S)
  have HM := Lib.hid (show (lvs H : Int) * (S : Int) = ((lvs H * S : Nat) : Int) by push_cast; rfl)
  have hmb : 0 ≤ (lvs H : Int) * (S : Int) ∧ (lvs H : Int) * (S : Int) ≤ 16 := by rw [HM.out]; omega
  have hb : ¬ (nP H S ≤ p) := by have := H1.out; omega
  obtain ⟨l0, c0, c1, c2⟩ := h.cells
  go_enter Try.func79, Try.ntmps79
  go_wp2_with fail
  refine wp_region_quiet_lit (by kernel_rfl) (by kernel_rfl) ?_
  try simp only [List.append]
  repeat (first | go_big_quiet_step (fail) | quiet_step (fail))
  refine wpQuiet_nil ?_
  intro W0 hW0
  have hN0 : Mn nb H S W0 := by obtain ⟨m, rfl⟩ := hW0; exact Ob.dn h
  have HW0 := Lib.hid hW0
  clear hW0
  go_wp2_with fail
  refine (mnet_ports nb H S W0 hN0 hs).mono ?_
  rintro e w1 ⟨rfl, hm1⟩
  have HM1 := Lib.hid hm1
  have hN : Mn nb H S w1 := by obtain ⟨m, rfl⟩ := hm1; exact Ob.dn hN0
  clear hm1 l0 c0 c1 c2
  obtain ⟨l0, c0, c1, c2⟩ := hN.cells
  go_wp2_with fail
  refine wp_region_quiet_lit (by kernel_rfl) (by kernel_rfl) ?_
  try simp only [List.append]
  repeat (first | go_big_quiet_step (fail) | quiet_step (fail))
  refine wpQuiet_nil ?_
  intro W hW
  obtain ⟨m3, rfl⟩ := hW
  go_wp2_with fail
  have e1 : ((p : Int) - (H : Int)) / 2 = (((p - H) / 2 : Nat) : Int) := by omega
  have e2 : (p : Int) - (H : Int) = ((p - H : Nat) : Int) := by omega
  refine done (.tuple #[.int .i64 1, .int .i64 (((p : Int) - (H : Int)) / 2), .int .i64 ((p : Int) - (H : Int))]) rfl (by simp [results, Try.results79, go_sem]) ⟨by rw [e1, e2], by obtain ⟨m, rfl⟩ := HW0.out; obtain ⟨m2, rfl⟩ := HM1.out; exact ⟨m + m2 + m3, by simp only [World.drewN_drewN]⟩⟩
theorem mkind3 (h : Mn nb H S w) (hs : Hs H S) (hpk : p = 2 * H + k) (hk : k < lvs H * S) : Calls Try.prog 79 #[.pointer (some ⟨nb, 0, none⟩), .int .i64 p] w (MKind 2 ((k / S : Nat) : Int) ((k % S : Nat) : Int) w) := by
  have HPK := Lib.hid hpk
  have hp1 : 2 * H ≤ p := by omega
  have hp2 : p < 2 * H + lvs H * S := by omega
  clear hpk
  have hh := hs.h
  have hnp := hs.np
  have hls := hs.ls
  obtain ⟨hv1, hv2⟩ := hs.lv
  obtain ⟨hs1, hs4⟩ := hs.s
  have H1 := Lib.hid (nP_ls H S)
  have HM := Lib.hid (show (lvs H : Int) * (S : Int) = ((lvs H * S : Nat) : Int) by push_cast; rfl)
  have hmb : 0 ≤ (lvs H : Int) * (S : Int) ∧ (lvs H : Int) * (S : Int) ≤ 16 := by rw [HM.out]; omega
  have hb : ¬ (nP H S ≤ p) := by have := H1.out; omega
  obtain ⟨l0, c0, c1, c2⟩ := h.cells
  go_enter Try.func79, Try.ntmps79
  go_wp2_with fail
  refine wp_region_quiet_lit (by kernel_rfl) (by kernel_rfl) ?_
  try simp only [List.append]
  repeat (first | go_big_quiet_step (fail) | quiet_step (fail))
  refine wpQuiet_nil ?_
  intro W0 hW0
  have hN0 : Mn nb H S W0 := by obtain ⟨m, rfl⟩ := hW0; exact Ob.dn h
  have HW0 := Lib.hid hW0
  clear hW0
  go_wp2_with fail
  refine (mnet_ports nb H S W0 hN0 hs).mono ?_
  rintro e w1 ⟨rfl, hm1⟩
  have HM1 := Lib.hid hm1
  have hN : Mn nb H S w1 := by obtain ⟨m, rfl⟩ := hm1; exact Ob.dn hN0
  clear hm1 l0 c0 c1 c2
  obtain ⟨l0, c0, c1, c2⟩ := hN.cells
  have hb4 : (p : Int) < 2 * (H : Int) + (lvs H : Int) * (S : Int) := by rw [HM.out]; omega
  have e3 : Hid ((p : Int) - 2 * (H : Int) = (k : Int)) := Lib.hid (by have := HPK.out; omega)
  have hk16 : k ≤ 16 := by omega
  have hkd : 0 ≤ (k : Int) / (S : Int) ∧ (k : Int) / (S : Int) ≤ 16 := by
    have h1 : (k : Int) / (S : Int) = ((k / S : Nat) : Int) := by push_cast; rfl
    have h2 := Nat.le_trans (Nat.div_le_self k S) hk16
    rw [h1]
    generalize k / S = q at h2 ⊢
    omega
  go_upto_region 10 with fail
  rw [e3.out]
  refine wp_region_quiet_lit (by kernel_rfl) (by kernel_rfl) ?_
  try simp only [List.append]
  repeat (first | go_big_quiet_step (fail) | quiet_step (fail))
  refine wpQuiet_nil ?_
  intro W hW
  obtain ⟨m3, rfl⟩ := hW
  go_wp2_with fail
  refine done (.tuple #[.int .i64 2, .int .i64 ((k : Int) / (S : Int)), .int .i64 ((k : Int) % (S : Int))]) rfl (by simp [results, Try.results79, go_sem]) ⟨by push_cast; rfl, by obtain ⟨m, rfl⟩ := HW0.out; obtain ⟨m2, rfl⟩ := HM1.out; exact ⟨m + m2 + m3, by simp only [World.drewN_drewN]⟩⟩
theorem mkind4 (h : Mn nb H S w) (hs : Hs H S) (hpk : p = 2 * H + lvs H * S + k) (hk : k < lvs H * S) : Calls Try.prog 79 #[.pointer (some ⟨nb, 0, none⟩), .int .i64 p] w (MKind 3 ((k / lvs H : Nat) : Int) ((k % lvs H : Nat) : Int) w) := by
  have HPK := Lib.hid hpk
  have hp1 : 2 * H ≤ p := by omega
  have hp2 : p < nP H S := by rw [nP_ls]; omega
  clear hpk
  have hh := hs.h
  have hnp := hs.np
  have hls := hs.ls
  obtain ⟨hv1, hv2⟩ := hs.lv
  obtain ⟨hs1, hs4⟩ := hs.s
  have H1 := Lib.hid (nP_ls H S)
  have HM := Lib.hid (show (lvs H : Int) * (S : Int) = ((lvs H * S : Nat) : Int) by push_cast; rfl)
  have hmb : 0 ≤ (lvs H : Int) * (S : Int) ∧ (lvs H : Int) * (S : Int) ≤ 16 := by rw [HM.out]; omega
  have hb : ¬ (nP H S ≤ p) := by have := H1.out; omega
  obtain ⟨l0, c0, c1, c2⟩ := h.cells
  go_enter Try.func79, Try.ntmps79
  go_wp2_with fail
  refine wp_region_quiet_lit (by kernel_rfl) (by kernel_rfl) ?_
  try simp only [List.append]
  repeat (first | go_big_quiet_step (fail) | quiet_step (fail))
  refine wpQuiet_nil ?_
  intro W0 hW0
  have hN0 : Mn nb H S W0 := by obtain ⟨m, rfl⟩ := hW0; exact Ob.dn h
  have HW0 := Lib.hid hW0
  clear hW0
  go_wp2_with fail
  refine (mnet_ports nb H S W0 hN0 hs).mono ?_
  rintro e w1 ⟨rfl, hm1⟩
  have HM1 := Lib.hid hm1
  have hN : Mn nb H S w1 := by obtain ⟨m, rfl⟩ := hm1; exact Ob.dn hN0
  clear hm1 l0 c0 c1 c2
  obtain ⟨l0, c0, c1, c2⟩ := hN.cells
  have hb4 : ¬ ((p : Int) < 2 * (H : Int) + (lvs H : Int) * (S : Int)) := by rw [HM.out]; have := HPK.out; omega
  have e3 : Hid ((p : Int) - 2 * (H : Int) - (lvs H : Int) * (S : Int) = (k : Int)) := Lib.hid (by rw [HM.out]; have := HPK.out; omega)
  have hk16 : k ≤ 16 := by omega
  have hkd : 0 ≤ (k : Int) / (lvs H : Int) ∧ (k : Int) / (lvs H : Int) ≤ 16 := by
    have h1 : (k : Int) / (lvs H : Int) = ((k / lvs H : Nat) : Int) := by push_cast; rfl
    have h2 := Nat.le_trans (Nat.div_le_self k (lvs H)) hk16
    rw [h1]
    generalize k / lvs H = q at h2 ⊢
    omega
  go_upto_region 12 with fail
  rw [e3.out]
  refine wp_region_quiet_lit (by kernel_rfl) (by kernel_rfl) ?_
  try simp only [List.append]
  repeat (first | go_big_quiet_step (fail) | quiet_step (fail))
  refine wpQuiet_nil ?_
  intro W hW
  obtain ⟨m3, rfl⟩ := hW
  go_wp2_with fail
  refine done (.tuple #[.int .i64 3, .int .i64 ((k : Int) / (lvs H : Int)), .int .i64 ((k : Int) % (lvs H : Int))]) rfl (by simp [results, Try.results79, go_sem]) ⟨by push_cast; rfl, by obtain ⟨m, rfl⟩ := HW0.out; obtain ⟨m2, rfl⟩ := HM1.out; exact ⟨m + m2 + m3, by simp only [World.drewN_drewN]⟩⟩
theorem mnext_down (h : Mn nb H S w) (hs : Hs H S) (hd : d < H) (hp : H ≤ p) (hp2 : p < 2 * H) : Calls Try.prog 54 #[.pointer (some ⟨nb, 0, none⟩), .int .i64 p, .int .i64 d, .int .i64 path] w (NextIs (-1, true) w) := by
  obtain ⟨hh1, hh2⟩ := hs.h
  obtain ⟨hs1, hs4⟩ := hs.s
  obtain ⟨hv1, hv2⟩ := hs.lv
  have hls := hs.ls
  obtain ⟨t1, t2, t3⟩ := tmod_emod2 path S (by omega)
  have hsz : (S : Int) ≠ 0 := by omega
  have hmod : path.tmod (S : Int) < 0 ∨ 0 ≤ path.tmod (S : Int) := by omega
  have hk := mkind2 h hs hp hp2
  clear t1
  generalize (((p - H) / 2 : Nat) : Int) = a at *
  generalize ((p - H : Nat) : Int) = b at *
  rcases hmod with hmod | hmod
  all_goals
    go_enter Try.func54, Try.ntmps54
    go_wp2_with fail
    refine (hk).mono ?_
    rintro e w1 ⟨rfl, hm⟩
    have HM := Lib.hid hm
    have hN : Mn nb H S w1 := by obtain ⟨m, rfl⟩ := hm; exact Ob.dn h
    clear hm
    obtain ⟨l0, c0, c1, c2⟩ := hN.cells
    go_wp2_with fail
    go_ret2
    exact ⟨rfl, HM.out⟩
theorem mnext_up1 (h : Mn nb H S w) (hs : Hs H S) (hd : d < H) (hp : p < H) (hl : d / 2 = p / 2) : Calls Try.prog 54 #[.pointer (some ⟨nb, 0, none⟩), .int .i64 p, .int .i64 d, .int .i64 path] w (NextIs (((H + d : Nat) : Int), false) w) := by
  obtain ⟨hh1, hh2⟩ := hs.h
  obtain ⟨hs1, hs4⟩ := hs.s
  obtain ⟨hv1, hv2⟩ := hs.lv
  have hls := hs.ls
  obtain ⟨t1, t2, t3⟩ := tmod_emod2 path S (by omega)
  have hsz : (S : Int) ≠ 0 := by omega
  have hmod : path.tmod (S : Int) < 0 ∨ 0 ≤ path.tmod (S : Int) := by omega
  have hk := mkind1 h hs hp
  have hdp : (p : Int) / 2 = (d : Int) / 2 := by omega
  clear t1 hl
  rcases hmod with hmod | hmod
  all_goals
    go_enter Try.func54, Try.ntmps54
    go_wp2_with fail
    refine (hk).mono ?_
    rintro e w1 ⟨rfl, hm⟩
    have HM := Lib.hid hm
    have hN : Mn nb H S w1 := by obtain ⟨m, rfl⟩ := hm; exact Ob.dn h
    clear hm
    obtain ⟨l0, c0, c1, c2⟩ := hN.cells
    go_wp2_with fail
    go_ret2
    exact ⟨by push_cast; rfl, HM.out⟩
theorem mnext_up2 (h : Mn nb H S w) (hs : Hs H S) (hd : d < H) (hp : p < H) (hl : d / 2 ≠ p / 2) : Calls Try.prog 54 #[.pointer (some ⟨nb, 0, none⟩), .int .i64 p, .int .i64 d, .int .i64 path] w (NextIs (((2 * H + p / 2 * S : Nat) : Int) + path % (S : Int), false) w) := by
  obtain ⟨hh1, hh2⟩ := hs.h
  obtain ⟨hs1, hs4⟩ := hs.s
  obtain ⟨hv1, hv2⟩ := hs.lv
  have hls := hs.ls
  obtain ⟨t1, t2, t3⟩ := tmod_emod2 path S (by omega)
  have hsz : (S : Int) ≠ 0 := by omega
  have hmod : path.tmod (S : Int) < 0 ∨ 0 ≤ path.tmod (S : Int) := by omega
  have hk := mkind1 h hs hp
  have hdp : ¬ ((p : Int) / 2 = (d : Int) / 2) := by omega
  have e1 : path.tmod (S : Int) % (S : Int) = path % (S : Int) := by rw [← t1, Int.add_emod_right]
  have e2 := Int.emod_nonneg path (show (S : Int) ≠ 0 by omega)
  have e3 := Int.emod_lt_of_pos path (show (0 : Int) < S by omega)
  have HE1 := Lib.hid e1
  have hps : p / 2 * S ≤ 12 := Nat.mul_le_mul (show p / 2 ≤ 3 by omega) hs4
  have HPS := Lib.hid (show ((p : Int) / 2) * (S : Int) = ((p / 2 * S : Nat) : Int) by push_cast; rfl)
  have hpb : 0 ≤ ((p : Int) / 2) * (S : Int) ∧ ((p : Int) / 2) * (S : Int) ≤ 12 := by rw [HPS.out]; omega
  clear t1 hl e1
  rcases hmod with hmod | hmod
  · have hfin : Hid (path.tmod (S : Int) + (S : Int) = path % (S : Int)) := Lib.hid (by
      have := HE1.out
      rw [← this]
      rw [show path.tmod (S : Int) % (S : Int) = (path.tmod (S : Int) + (S : Int)) % (S : Int) by rw [Int.add_emod_right]]
      rw [Int.emod_eq_of_lt (by omega) (by omega)])
    go_enter Try.func54, Try.ntmps54
    go_wp2_with fail
    refine (hk).mono ?_
    rintro e w1 ⟨rfl, hm⟩
    have HM := Lib.hid hm
    have hN : Mn nb H S w1 := by obtain ⟨m, rfl⟩ := hm; exact Ob.dn h
    clear hm
    obtain ⟨l0, c0, c1, c2⟩ := hN.cells
    go_upto_region 7 with fail
    rw [hfin.out]
    go_wp2_with fail
    refine wp_region_quiet_lit (by kernel_rfl) (by kernel_rfl) ?_
    try simp only [List.append]
    repeat (first | go_big_quiet_step (fail) | quiet_step (fail))
    refine wpQuiet_nil ?_
    intro W hW
    obtain ⟨m2, rfl⟩ := hW
    go_wp2_with fail
    go_ret2
    exact ⟨by push_cast; rfl, by obtain ⟨m, rfl⟩ := HM.out; exact ⟨m + m2, by rw [World.drewN_drewN]⟩⟩
  · have hfin : Hid (path.tmod (S : Int) = path % (S : Int)) := Lib.hid (by
      rw [← HE1.out, Int.emod_eq_of_lt (by omega) (by omega)])
    go_enter Try.func54, Try.ntmps54
    go_wp2_with fail
    refine (hk).mono ?_
    rintro e w1 ⟨rfl, hm⟩
    have HM := Lib.hid hm
    have hN : Mn nb H S w1 := by obtain ⟨m, rfl⟩ := hm; exact Ob.dn h
    clear hm
    obtain ⟨l0, c0, c1, c2⟩ := hN.cells
    go_upto_region 7 with fail
    rw [hfin.out]
    go_wp2_with fail
    refine wp_region_quiet_lit (by kernel_rfl) (by kernel_rfl) ?_
    try simp only [List.append]
    repeat (first | go_big_quiet_step (fail) | quiet_step (fail))
    refine wpQuiet_nil ?_
    intro W hW
    obtain ⟨m2, rfl⟩ := hW
    go_wp2_with fail
    go_ret2
    exact ⟨by push_cast; rfl, by obtain ⟨m, rfl⟩ := HM.out; exact ⟨m + m2, by rw [World.drewN_drewN]⟩⟩
theorem mnext_leafup (h : Mn nb H S w) (hs : Hs H S) (hd : d < H) (hpk : p = 2 * H + k) (hk : k < lvs H * S) : Calls Try.prog 54 #[.pointer (some ⟨nb, 0, none⟩), .int .i64 p, .int .i64 d, .int .i64 path] w (NextIs (((2 * H + lvs H * S + k % S * lvs H + d / 2 : Nat) : Int), false) w) := by
  obtain ⟨hh1, hh2⟩ := hs.h
  obtain ⟨hs1, hs4⟩ := hs.s
  obtain ⟨hv1, hv2⟩ := hs.lv
  have hls := hs.ls
  obtain ⟨t1, t2, t3⟩ := tmod_emod2 path S (by omega)
  have hsz : (S : Int) ≠ 0 := by omega
  have hmod : path.tmod (S : Int) < 0 ∨ 0 ≤ path.tmod (S : Int) := by omega
  have hk := mkind3 h hs hpk hk
  have hq : k % S ≤ 4 := by have := Nat.mod_lt k (show S > 0 by omega); omega
  have hqm : k % S * lvs H ≤ 16 := Nat.mul_le_mul hq hv2
  have HM0 := Lib.hid (show (lvs H : Int) * (S : Int) = ((lvs H * S : Nat) : Int) by push_cast; rfl)
  have hmb : 0 ≤ (lvs H : Int) * (S : Int) ∧ (lvs H : Int) * (S : Int) ≤ 16 := by rw [HM0.out]; omega
  obtain ⟨ks, hks⟩ : ∃ ks : Nat, k % S = ks := ⟨_, rfl⟩
  rw [hks] at hk hq hqm ⊢
  have HM2 := Lib.hid (show (ks : Int) * (lvs H : Int) = ((ks * lvs H : Nat) : Int) by push_cast; rfl)
  have hmb2 : 0 ≤ (ks : Int) * (lvs H : Int) ∧ (ks : Int) * (lvs H : Int) ≤ 16 := by rw [HM2.out]; omega
  clear t1 hks hpk
  generalize ((k / S : Nat) : Int) = ka at *
  rcases hmod with hmod | hmod
  all_goals
    go_enter Try.func54, Try.ntmps54
    go_wp2_with fail
    refine (hk).mono ?_
    rintro e w1 ⟨rfl, hm⟩
    have HM := Lib.hid hm
    have hN : Mn nb H S w1 := by obtain ⟨m, rfl⟩ := hm; exact Ob.dn h
    clear hm
    obtain ⟨l0, c0, c1, c2⟩ := hN.cells
    go_wp2_with fail
    refine wp_region_quiet_lit (by kernel_rfl) (by kernel_rfl) ?_
    try simp only [List.append]
    repeat (first | go_big_quiet_step (fail) | quiet_step (fail))
    refine wpQuiet_nil ?_
    intro W hW
    obtain ⟨m2, rfl⟩ := hW
    go_wp2_with fail
    go_ret2
    exact ⟨by push_cast; rfl, by obtain ⟨m, rfl⟩ := HM.out; exact ⟨m + m2, by rw [World.drewN_drewN]⟩⟩
theorem mnext_spine (h : Mn nb H S w) (hs : Hs H S) (hd : d < H) (hpk : p = 2 * H + lvs H * S + k) (hk : k < lvs H * S) (hl : d / 2 = k % lvs H) : Calls Try.prog 54 #[.pointer (some ⟨nb, 0, none⟩), .int .i64 p, .int .i64 d, .int .i64 path] w (NextIs (((H + d : Nat) : Int), false) w) := by
  obtain ⟨hh1, hh2⟩ := hs.h
  obtain ⟨hs1, hs4⟩ := hs.s
  obtain ⟨hv1, hv2⟩ := hs.lv
  have hls := hs.ls
  obtain ⟨t1, t2, t3⟩ := tmod_emod2 path S (by omega)
  have hsz : (S : Int) ≠ 0 := by omega
  have hmod : path.tmod (S : Int) < 0 ∨ 0 ≤ path.tmod (S : Int) := by omega
  have hk := mkind4 h hs hpk hk
  have hdp : ((d / 2 : Nat) : Int) = (d : Int) / 2 := by omega
  rw [← hl, hdp] at hk
  clear t1 hpk hl hdp
  generalize ((k / lvs H : Nat) : Int) = ka at *
  rcases hmod with hmod | hmod
  all_goals
    go_enter Try.func54, Try.ntmps54
    go_wp2_with fail
    refine (hk).mono ?_
    rintro e w1 ⟨rfl, hm⟩
    have HM := Lib.hid hm
    have hN : Mn nb H S w1 := by obtain ⟨m, rfl⟩ := hm; exact Ob.dn h
    clear hm
    obtain ⟨l0, c0, c1, c2⟩ := hN.cells
    go_wp2_with fail
    go_ret2
    exact ⟨by push_cast; rfl, HM.out⟩
theorem mnet_next (h : Mn nb H S w) (hs : Hs H S) (hd : d < H) (hp : p < nP H S) (hsp : nxt H S p d path ≠ (-1, false)) : Calls Try.prog 54 #[.pointer (some ⟨nb, 0, none⟩), .int .i64 p, .int .i64 d, .int .i64 path] w (NextIs (nxt H S p d path) w) := by
  unfold nxt at hsp ⊢
  by_cases h1 : p < H
  · rw [if_pos h1]
    by_cases h2 : d / 2 = p / 2
    · rw [if_pos h2]; exact mnext_up1 h hs hd h1 h2
    · rw [if_neg h2]; exact mnext_up2 h hs hd h1 h2
  · rw [if_neg h1] at hsp ⊢
    by_cases h2 : p < 2 * H
    · rw [if_pos h2]; exact mnext_down h hs hd (by omega) h2
    · rw [if_neg h2] at hsp ⊢
      by_cases h3 : p < 2 * H + lvs H * S
      · rw [if_pos h3]
        exact mnext_leafup h hs hd (by omega) (by omega)
      · rw [if_neg h3] at hsp ⊢
        rw [nP_ls] at hp
        by_cases h4 : d / 2 = (p - 2 * H - lvs H * S) % lvs H
        · rw [if_pos h4]; exact mnext_spine h hs hd (by omega) (by omega) h4
        · rw [if_neg h4] at hsp; exact absurd rfl hsp
end
end Go.Proofs.Ytoihhidoafgoaaa
