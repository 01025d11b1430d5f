/- Hosts, leaves, spines (chapter 14): numbers of ports, and where a frame goes. -/
import Derived.Test.YtoihhidoafgoaaaTail
import Derived.Test.YtoihhidoafgoaaaProg
namespace Go.Proofs.Ytoihhidoafgoaaa
open Go.RowKit

abbrev TNet : TypeId := 107
def lvs (H : Nat) : Nat := (H + 1) / 2
def nP (H S : Nat) : Nat := 2 * H + 2 * lvs H * S
structure Hs (H S : Nat) : Prop where
  h : 2 ≤ H ∧ H ≤ 8
  s : 1 ≤ S ∧ S ≤ 4
theorem Hs.lv {H S : Nat} (h : Hs H S) : 1 ≤ lvs H ∧ lvs H ≤ 4 := by have := h.h; unfold lvs; omega
theorem Hs.ls {H S : Nat} (h : Hs H S) : 1 ≤ lvs H * S ∧ lvs H * S ≤ 16 := by
  have h1 := h.lv
  have h2 := h.s
  exact ⟨Nat.mul_pos h1.1 h2.1, Nat.mul_le_mul h1.2 h2.2⟩
theorem nP_ls (H S : Nat) : nP H S = 2 * H + 2 * (lvs H * S) := by unfold nP; rw [Nat.mul_assoc]
theorem Hs.np {H S : Nat} (h : Hs H S) : 6 ≤ nP H S ∧ nP H S ≤ 48 := by have := h.ls; have := h.h; rw [nP_ls]; omega
def Ni (nb H S : Nat) (w : World) : Prop := Ob w nb #[.int .i64 H, .int .i64 (lvs H), .int .i64 S] TNet
theorem Ni.cells {nb H S : Nat} {w : World} (h : Ni nb H S w) : nb < w.heap.size ∧ w.cell? ⟨nb, 0, none⟩ = some (.int .i64 H) ∧ w.cell? ⟨nb, 1, none⟩ = some (.int .i64 (lvs H)) ∧ w.cell? ⟨nb, 2, none⟩ = some (.int .i64 S) := by
  obtain ⟨a, b, _⟩ := Ob.blk h
  exact ⟨a, b 0, b 1, b 2⟩
theorem tnew_no (H S : Int) (w : World) (h : ¬ ((2 ≤ H ∧ H ≤ 8) ∧ 1 ≤ S ∧ S ≤ 4)) : Calls Try.prog 30 #[.int .i64 H, .int .i64 S] w fun e w' => e = .returned (.tuple #[.pointer none, .int .i64 1]) ∧ w = w' := by
  have h2 : H < 2 ∨ (2 ≤ H ∧ 8 < H) ∨ ((2 ≤ H ∧ H ≤ 8) ∧ S < 1) ∨ ((2 ≤ H ∧ H ≤ 8) ∧ 1 ≤ S ∧ 4 < S) := by omega
  clear h
  rcases h2 with h1 | ⟨h1, h2⟩ | ⟨⟨h1, h2⟩, h3⟩ | ⟨⟨h1, h2⟩, h3, h4⟩
  all_goals
    go_enter Try.func30, Try.ntmps30
    go_wp2_with fail
    go_ret2
    exact ⟨rfl, rfl⟩
theorem tnew_yes (H S : Nat) (w : World) (h : Hs H S) : Calls Try.prog 30 #[.int .i64 H, .int .i64 S] w fun e w' => e = .returned (.tuple #[.pointer (some ⟨w.heap.size, 0, none⟩), .int .i64 0]) ∧ Ni w.heap.size H S w' ∧ Below w.heap.size w w' := by
  obtain ⟨⟨h1, h2⟩, h3, h4⟩ := h
  go_enter Try.func30, Try.ntmps30
  go_wp2_with fail
  go_ret2
  have hq : ((H : Int) + 2 - 1) / 2 = (lvs H : Int) := by unfold lvs; omega
  have HO := Ob.new w #[.int .i64 H, .int .i64 (((H : Int) + 2 - 1) / 2), .int .i64 S] TNet
  rw [hq] at HO ⊢
  exact ⟨rfl, HO, (Below.refl _ _).alloc (Nat.le_refl _) _⟩
theorem net_ports (nb H S : Nat) (w : World) (h : Ni nb H S w) (hs : Hs H S) : Calls Try.prog 31 #[.pointer (some ⟨nb, 0, none⟩)] w fun e w' => e = .returned (.int .i64 (nP H S)) ∧ ∃ m, w' = w.drewN m := by
  obtain ⟨l0, c0, c1, c2⟩ := h.cells
  obtain ⟨h1, h2⟩ := hs.h
  obtain ⟨h3, h4⟩ := hs.s
  obtain ⟨h5, h6⟩ := hs.lv
  have hq : 2 * (lvs H : Int) * (S : Int) = 2 * ((lvs H * S : Nat) : Int) := by push_cast; rw [Int.mul_assoc]
  have hl := hs.ls
  have hb : 0 ≤ 2 * (lvs H : Int) * (S : Int) ∧ 2 * (lvs H : Int) * (S : Int) ≤ 64 := by omega
  go_enter Try.func31, Try.ntmps31
  go_wp2_with fail
  refine wp_region_quiet_lit (by kernel_rfl) (by kernel_rfl) ?_
  try simp only [List.append]
  repeat (first | go_big_quiet_step (fail) | quiet_step (fail))
  refine wpQuiet_nil ?_
  intro W hW
  go_wp2_with fail
  go_ret
  exact ⟨ret_int (by rw [nP_ls]; push_cast; omega), hW⟩
theorem net_has (nb H S : Nat) (k : Nat) (w : World) (h : Ni nb H S w) (hk : k < H) (_ : Hs H S) : Calls Try.prog 64 #[.pointer (some ⟨nb, 0, none⟩), .int .i64 k] w fun e w' => e = .returned (.bool true) ∧ w = w' := by
  obtain ⟨l0, c0, c1, c2⟩ := h.cells
  have hk2 : (decide ((k : Int) < (H : Int))) = true := decide_eq_true (by omega)
  go_enter Try.func64, Try.ntmps64
  go_wp2_with fail
  go_ret
  exact ⟨rfl, rfl⟩
theorem net_leaf (nb H S : Nat) (k : Nat) (w : World) (h : Ni nb H S w) (hk : k < H) (hs : Hs H S) : Calls Try.prog 73 #[.pointer (some ⟨nb, 0, none⟩), .int .i64 k] w fun e w' => e = .returned (.int .i64 ((k / 2 : Nat) : Int)) ∧ w = w' := by
  have := hs.h
  go_enter Try.func73, Try.ntmps73
  go_wp2_with fail
  refine (net_has nb H S k w h hk hs).mono ?_
  rintro e w1 ⟨rfl, rfl⟩
  go_wp2_with fail
  go_ret
  exact ⟨ret_int (by omega), rfl⟩
theorem net_up (nb H S : Nat) (k : Nat) (w : World) (h : Ni nb H S w) (hk : k < H) (hs : Hs H S) : Calls Try.prog 37 #[.pointer (some ⟨nb, 0, none⟩), .int .i64 k] w fun e w' => e = .returned (.int .i64 k) ∧ w = w' := by
  go_enter Try.func37, Try.ntmps37
  go_wp2_with fail
  refine (net_has nb H S k w h hk hs).mono ?_
  rintro e w1 ⟨rfl, rfl⟩
  go_wp2_with fail
  go_ret
  exact ⟨rfl, rfl⟩
theorem net_down_yes (nb H S : Nat) (lf k : Nat) (w : World) (h : Ni nb H S w) (hk : k < H) (hs : Hs H S) (hl : k / 2 = lf) : Calls Try.prog 74 #[.pointer (some ⟨nb, 0, none⟩), .int .i64 lf, .int .i64 k] w fun e w' => e = .returned (.int .i64 ((H + k : Nat) : Int)) ∧ w = w' := by
  obtain ⟨l0, c0, c1, c2⟩ := h.cells
  have := hs.h
  subst hl
  go_enter Try.func74, Try.ntmps74
  go_wp2_with fail
  refine (net_leaf nb H S k w h hk hs).mono ?_
  rintro e w1 ⟨rfl, rfl⟩
  go_wp2_with fail
  go_ret
  exact ⟨by push_cast; rfl, rfl⟩
theorem net_down_no (nb H S : Nat) (lf k : Nat) (w : World) (h : Ni nb H S w) (hk : k < H) (hs : Hs H S) (hl : k / 2 ≠ lf) : Calls Try.prog 74 #[.pointer (some ⟨nb, 0, none⟩), .int .i64 lf, .int .i64 k] w fun e w' => e = .returned (.int .i64 (-1)) ∧ w = w' := by
  have hb : (((k / 2 : Nat) : Int) == (lf : Int)) = false := beq_eq_false_iff_ne.2 (by omega)
  go_enter Try.func74, Try.ntmps74
  go_wp2_with fail
  refine (net_leaf nb H S k w h hk hs).mono ?_
  rintro e w1 ⟨rfl, rfl⟩
  go_wp2_with fail
  go_ret
  exact ⟨rfl, rfl⟩
end Go.Proofs.Ytoihhidoafgoaaa
/- Hosts, leaves, spines (chapter 14): kinds of ports, the next port, the host. -/
namespace Go.Proofs.Ytoihhidoafgoaaa
open Go.RowKit

def nxt (H S p d : Nat) (path : Int) : Int × Bool :=
  if p < H then (if d / 2 = p / 2 then (((H + d : Nat) : Int), false) else (((2 * H + p / 2 * S : Nat) : Int) + path % (S : Int), false))
  else if p < 2 * H then (-1, true)
  else if p < 2 * H + lvs H * S then (((2 * H + lvs H * S + (p - 2 * H) % S * lvs H + d / 2 : Nat) : Int), false)
  else if d / 2 = (p - 2 * H - lvs H * S) % lvs H then (((H + d : Nat) : Int), false) else (-1, false)
def KindIs (a b : Int) (w : World) (e : Ending) (w' : World) : Prop := e = .returned (.tuple #[.int .i64 a, .int .i64 b]) ∧ ∃ m, w' = w.drewN m
section
variable {nb H S p : Nat} {w : World}
theorem net_kind1 (h : Ni nb H S w) (hs : Hs H S) (hp : p < H) : Calls Try.prog 72 #[.pointer (some ⟨nb, 0, none⟩), .int .i64 p] w (KindIs 1 p w) := by
  obtain ⟨l0, c0, c1, c2⟩ := h.cells
  have hh := hs.h
  have hnp := hs.np
  have H1 := Lib.hid (nP_ls H S)
  have hb : ¬ (nP H S ≤ p) := by have := H1.out; omega
  go_enter Try.func72, Try.ntmps72
  go_wp2_with fail
  refine (net_ports nb H S w h hs).mono ?_
  rintro e w1 ⟨rfl, hm1⟩
  have HM1 := Lib.hid hm1
  have hN : Ni nb H S w1 := by obtain ⟨m, rfl⟩ := hm1; exact Ob.dn h
  clear hm1
  clear l0 c0 c1 c2
  obtain ⟨l0, c0, c1, c2⟩ := hN.cells
  go_wp2_with fail
  go_ret2
  exact ⟨rfl, HM1.out⟩
theorem net_kind2 (h : Ni nb H S w) (hs : Hs H S) (hp : H ≤ p) (hp2 : p < 2 * H) : Calls Try.prog 72 #[.pointer (some ⟨nb, 0, none⟩), .int .i64 p] w (KindIs 2 ((p - H : Nat) : Int) w) := by
  obtain ⟨l0, c0, c1, c2⟩ := h.cells
  have hh := hs.h
  have hnp := hs.np
  have H1 := Lib.hid (nP_ls H S)
  have hb : ¬ (nP H S ≤ p) := by have := H1.out; omega
  go_enter Try.func72, Try.ntmps72
  go_wp2_with fail
  refine (net_ports nb H S w h hs).mono ?_
  rintro e w1 ⟨rfl, hm1⟩
  have HM1 := Lib.hid hm1
  have hN : Ni nb H S w1 := by obtain ⟨m, rfl⟩ := hm1; exact Ob.dn h
  clear hm1
  clear l0 c0 c1 c2
  obtain ⟨l0, c0, c1, c2⟩ := hN.cells
  go_wp2_with fail
  refine wp_region_quiet_lit (by kernel_rfl) (by kernel_rfl) ?_
  try simp only [List.append]
  repeat (first | go_big_quiet_step (fail) | quiet_step (fail))
  refine wpQuiet_nil ?_
  intro W hW
  obtain ⟨m2, rfl⟩ := hW
  go_wp2_with fail
  go_ret2
  exact ⟨by rw [show ((p - H : Nat) : Int) = (p : Int) - (H : Int) by omega]; rfl, by obtain ⟨m, rfl⟩ := HM1.out; exact ⟨m + m2, by rw [World.drewN_drewN]⟩⟩
theorem net_kind3 (h : Ni nb H S w) (hs : Hs H S) (hp : 2 * H ≤ p) (hp2 : p < 2 * H + lvs H * S) : Calls Try.prog 72 #[.pointer (some ⟨nb, 0, none⟩), .int .i64 p] w (KindIs 3 ((p - 2 * H : Nat) : Int) w) := by
  obtain ⟨l0, c0, c1, c2⟩ := h.cells
  have hh := hs.h
  have hnp := hs.np
  have hls := hs.ls
  have H1 := Lib.hid (nP_ls H S)
  have hm : (lvs H : Int) * (S : Int) = ((lvs H * S : Nat) : Int) := by push_cast; rfl
  have hmb : 0 ≤ (lvs H : Int) * (S : Int) ∧ (lvs H : Int) * (S : Int) ≤ 16 := by omega
  have hb : ¬ (nP H S ≤ p) := by have := H1.out; omega
  have hb4 : decide ((p : Int) < 2 * (H : Int) + (lvs H : Int) * (S : Int)) = true := decide_eq_true (by omega)
  have HM := Lib.hid hm
  clear hm
  go_enter Try.func72, Try.ntmps72
  go_wp2_with fail
  refine (net_ports nb H S w h hs).mono ?_
  rintro e w1 ⟨rfl, hm1⟩
  have HM1 := Lib.hid hm1
  have hN : Ni nb H S w1 := by obtain ⟨m, rfl⟩ := hm1; exact Ob.dn h
  clear hm1
  clear l0 c0 c1 c2
  obtain ⟨l0, c0, c1, c2⟩ := hN.cells
  go_wp2_with fail
  refine wp_region_quiet_lit (by kernel_rfl) (by kernel_rfl) ?_
  try simp only [List.append]
  repeat (first | go_big_quiet_step (fail) | quiet_step (fail))
  refine wpQuiet_nil ?_
  intro W hW
  obtain ⟨m2, rfl⟩ := hW
  go_wp2_with fail
  go_ret2
  exact ⟨by rw [show ((p - 2 * H : Nat) : Int) = (p : Int) - 2 * (H : Int) by omega]; rfl, by obtain ⟨m, rfl⟩ := HM1.out; exact ⟨m + m2, by rw [World.drewN_drewN]⟩⟩
theorem net_kind4 (h : Ni nb H S w) (hs : Hs H S) (hp : 2 * H + lvs H * S ≤ p) (hp2 : p < nP H S) : Calls Try.prog 72 #[.pointer (some ⟨nb, 0, none⟩), .int .i64 p] w (KindIs 4 ((p - 2 * H - lvs H * S : Nat) : Int) w) := by
  obtain ⟨l0, c0, c1, c2⟩ := h.cells
  have hh := hs.h
  have hnp := hs.np
  have hls := hs.ls
  have H1 := Lib.hid (nP_ls H S)
  have hm : (lvs H : Int) * (S : Int) = ((lvs H * S : Nat) : Int) := by push_cast; rfl
  have hmb : 0 ≤ (lvs H : Int) * (S : Int) ∧ (lvs H : Int) * (S : Int) ≤ 16 := by omega
  have hb : ¬ (nP H S ≤ p) := by have := H1.out; omega
  have hb4 : decide ((p : Int) < 2 * (H : Int) + (lvs H : Int) * (S : Int)) = false := decide_eq_false (by omega)
  have HM := Lib.hid hm
  clear hm
  go_enter Try.func72, Try.ntmps72
  go_wp2_with fail
  refine (net_ports nb H S w h hs).mono ?_
  rintro e w1 ⟨rfl, hm1⟩
  have HM1 := Lib.hid hm1
  have hN : Ni nb H S w1 := by obtain ⟨m, rfl⟩ := hm1; exact Ob.dn h
  clear hm1
  clear l0 c0 c1 c2
  obtain ⟨l0, c0, c1, c2⟩ := hN.cells
  go_wp2_with fail
  refine wp_region_quiet_lit (by kernel_rfl) (by kernel_rfl) ?_
  try simp only [List.append]
  repeat (first | go_big_quiet_step (fail) | quiet_step (fail))
  refine wpQuiet_nil ?_
  intro W hW
  have hN2 : Ni nb H S W := by obtain ⟨m, rfl⟩ := hW; exact Ob.dn hN
  have HW1 := Lib.hid hW
  clear hW l0 c0 c1 c2
  obtain ⟨l0, c0, c1, c2⟩ := hN2.cells
  go_wp2_with fail
  refine wp_region_quiet_lit (by kernel_rfl) (by kernel_rfl) ?_
  try simp only [List.append]
  repeat (first | go_big_quiet_step (fail) | quiet_step (fail))
  refine wpQuiet_nil ?_
  intro W' hW'
  obtain ⟨m3, rfl⟩ := hW'
  go_wp2_with fail
  go_ret2
  exact ⟨by rw [show ((p - 2 * H - lvs H * S : Nat) : Int) = (p : Int) - 2 * (H : Int) - (lvs H : Int) * (S : Int) by rw [HM.out]; omega]; rfl, by obtain ⟨m, rfl⟩ := HM1.out; obtain ⟨m2, rfl⟩ := HW1.out; exact ⟨m + m2 + m3, by simp only [World.drewN_drewN]⟩⟩
end
end Go.Proofs.Ytoihhidoafgoaaa
/- Hosts, leaves, spines (chapter 14): the next port, the host. -/
namespace Go.Proofs.Ytoihhidoafgoaaa
open Go.RowKit

theorem tmod_emod2 (a n : Int) (hn : 0 < n) : (a.tmod n + n) % n = a % n ∧ -n < a.tmod n ∧ a.tmod n < n := by
  refine ⟨?_, Int.lt_tmod_of_pos _ hn, Int.tmod_lt_of_pos _ hn⟩
  rw [Int.add_emod_right, Int.tmod_def, Int.sub_mul_emod_self_left]
def NextIs (r : Int × Bool) (w : World) (e : Ending) (w' : World) : Prop := e = .returned (.tuple #[.int .i64 r.1, .bool r.2]) ∧ ∃ m, w' = w.drewN m
section
variable {nb H S p d : Nat} {path : Int} {w : World}
theorem next_down (h : Ni nb H S w) (hs : Hs H S) (hd : d < H) (hp : H ≤ p) (hp2 : p < 2 * H) : Calls Try.prog 40 #[.pointer (some ⟨nb, 0, none⟩), .int .i64 p, .int .i64 d, .int .i64 path] w (NextIs (-1, true) w) := by
  go_enter Try.func40, Try.ntmps40
  go_wp2_with fail
  refine (net_kind2 h hs hp hp2).mono ?_
  rintro e w1 ⟨rfl, hm⟩
  have HM := Lib.hid hm
  have hN : Ni nb H S w1 := by obtain ⟨m, rfl⟩ := hm; exact Ob.dn h
  clear hm
  go_wp2_with fail
  refine (net_has nb H S d w1 hN hd hs).mono ?_
  rintro e w2 ⟨rfl, rfl⟩
  go_wp2_with fail
  go_ret2
  exact ⟨rfl, HM.out⟩
theorem next_up1 (h : Ni nb H S w) (hs : Hs H S) (hd : d < H) (hp : p < H) (hl : d / 2 = p / 2) : Calls Try.prog 40 #[.pointer (some ⟨nb, 0, none⟩), .int .i64 p, .int .i64 d, .int .i64 path] w (NextIs (((H + d : Nat) : Int), false) w) := by
  go_enter Try.func40, Try.ntmps40
  go_wp2_with fail
  refine (net_kind1 h hs hp).mono ?_
  rintro e w1 ⟨rfl, hm⟩
  have HM := Lib.hid hm
  have hN : Ni nb H S w1 := by obtain ⟨m, rfl⟩ := hm; exact Ob.dn h
  clear hm
  go_wp2_with fail
  refine (net_has nb H S d w1 hN hd hs).mono ?_
  rintro e w2 ⟨rfl, rfl⟩
  go_wp2_with fail
  refine (net_leaf nb H S p w1 hN hp hs).mono ?_
  rintro e w2 ⟨rfl, rfl⟩
  go_wp2_with fail
  refine (net_down_yes nb H S (p / 2) d w1 hN hd hs hl).mono ?_
  rintro e w2 ⟨rfl, rfl⟩
  go_wp2_with fail
  go_ret2
  exact ⟨rfl, HM.out⟩
theorem next_up2 (h : Ni nb H S w) (hs : Hs H S) (hd : d < H) (hp : p < H) (hl : d / 2 ≠ p / 2) : Calls Try.prog 40 #[.pointer (some ⟨nb, 0, none⟩), .int .i64 p, .int .i64 d, .int .i64 path] w (NextIs (((2 * H + p / 2 * S : Nat) : Int) + path % (S : Int), false) w) := by
  obtain ⟨h1, h2⟩ := hs.h
  obtain ⟨h3, h4⟩ := hs.s
  obtain ⟨t1, t2, t3⟩ := tmod_emod2 path S (by omega)
  have T1 := Lib.hid t1
  clear t1
  have hlf : p / 2 ≤ 3 := by omega
  have hps : p / 2 * S ≤ 12 := Nat.mul_le_mul hlf h4
  have HPS := Lib.hid (show ((p / 2 : Nat) : Int) * (S : Int) = ((p / 2 * S : Nat) : Int) by push_cast; rfl)
  generalize hlq : p / 2 = lf at *
  have hpb : 0 ≤ (lf : Int) * (S : Int) ∧ (lf : Int) * (S : Int) ≤ 12 := by rw [HPS.out]; omega
  have HLF := Lib.hid hlq
  clear hlq
  go_enter Try.func40, Try.ntmps40
  go_wp2_with fail
  refine (net_kind1 h hs hp).mono ?_
  rintro e w1 ⟨rfl, hm⟩
  have HM := Lib.hid hm
  have hN : Ni nb H S w1 := by obtain ⟨m, rfl⟩ := hm; exact Ob.dn h
  clear hm
  go_wp2_with fail
  refine (net_has nb H S d w1 hN hd hs).mono ?_
  rintro e w2 ⟨rfl, rfl⟩
  go_wp2_with fail
  refine (net_leaf nb H S p w1 hN hp hs).mono ?_
  rintro e w2 ⟨rfl, rfl⟩
  rw [HLF.out]
  go_wp2_with fail
  refine (net_down_no nb H S lf d w1 hN hd hs hl).mono ?_
  rintro e w2 ⟨rfl, rfl⟩
  obtain ⟨l0, c0, c1, c2⟩ := hN.cells
  go_wp2_with fail
  refine wp_region_quiet_lit (by kernel_rfl) (by kernel_rfl) ?_
  try simp only [List.append]
  repeat (first | go_big_quiet_step (fail) | quiet_step (fail))
  refine wpQuiet_nil ?_
  intro W hW
  obtain ⟨m2, rfl⟩ := hW
  go_wp2_with fail
  go_ret2
  refine ⟨?_, by obtain ⟨m, rfl⟩ := HM.out; exact ⟨m + m2, by rw [World.drewN_drewN]⟩⟩
  have e1 : path.tmod (S : Int) % (S : Int) = path % (S : Int) := by rw [← T1.out, Int.add_emod_right]
  have e2 := Int.emod_nonneg path (show (S : Int) ≠ 0 by omega)
  have e3 := Int.emod_lt_of_pos path (show (0 : Int) < S by omega)
  have e4 : wrap64 (2 * (H : Int) + (lf : Int) * (S : Int) + path.tmod (S : Int) % (S : Int)) = ((2 * H + lf * S : Nat) : Int) + path % (S : Int) := by
    rw [e1]
    push_cast
    unfold wrap64
    omega
  rw [e4]
  rfl
theorem next_leafup {k : Nat} (h : Ni nb H S w) (hs : Hs H S) (hd : d < H) (hk : k < lvs H * S) : Calls Try.prog 40 #[.pointer (some ⟨nb, 0, none⟩), .int .i64 ((2 * H + k : Nat) : Int), .int .i64 d, .int .i64 path] w (NextIs (((2 * H + lvs H * S + k % S * lvs H + d / 2 : Nat) : Int), false) w) := by
  obtain ⟨h1, h2⟩ := hs.h
  obtain ⟨h3, h4⟩ := hs.s
  obtain ⟨h5, h6⟩ := hs.lv
  have hls := hs.ls
  have hkb : k ≤ 16 := by omega
  have hq : k % S ≤ 4 := by have := Nat.mod_lt k (show S > 0 by omega); omega
  have hqm : k % S * lvs H ≤ 16 := Nat.mul_le_mul hq h6
  have hm : (lvs H : Int) * (S : Int) = ((lvs H * S : Nat) : Int) := by push_cast; rfl
  have hmb : 0 ≤ (lvs H : Int) * (S : Int) ∧ (lvs H : Int) * (S : Int) ≤ 16 := by omega
  have hm2 : ((k : Int) % (S : Int)) * (lvs H : Int) = ((k % S * lvs H : Nat) : Int) := by push_cast; rfl
  have hmb2 : 0 ≤ ((k : Int) % (S : Int)) * (lvs H : Int) ∧ ((k : Int) % (S : Int)) * (lvs H : Int) ≤ 16 := by omega
  have HM2 := Lib.hid hm2
  have HMM := Lib.hid hm
  clear hm hm2
  have hkk := net_kind3 (p := 2 * H + k) h hs (by omega) (by omega)
  rw [Nat.add_sub_cancel_left] at hkk
  have hpp : ((2 * H + k : Nat) : Int) = 2 * (H : Int) + k := by push_cast; rfl
  go_enter Try.func40, Try.ntmps40
  go_wp2_with fail
  refine (hkk).mono ?_
  rintro e w1 ⟨rfl, hm⟩
  have HM := Lib.hid hm
  have hN : Ni nb H S w1 := by obtain ⟨m, rfl⟩ := hm; exact Ob.dn h
  clear hm hkk
  go_wp2_with fail
  refine (net_has nb H S d w1 hN hd hs).mono ?_
  rintro e w2 ⟨rfl, rfl⟩
  obtain ⟨l0, c0, c1, c2⟩ := hN.cells
  go_wp2_with fail
  refine wp_region_quiet_lit (by kernel_rfl) (by kernel_rfl) ?_
  try simp only [List.append]
  repeat (first | go_big_quiet_step (first | (go_at_call 73; exact quietS (net_leaf nb H S d _ (Ob.dn hN) hd hs)) | (go_at_call 73; exact quietA (net_leaf nb H S d _ (Ob.dn hN) hd hs))) | quiet_step (first | (go_at_call 73; exact quietS (net_leaf nb H S d _ (Ob.dn hN) hd hs)) | (go_at_call 73; exact quietA (net_leaf nb H S d _ (Ob.dn hN) hd hs))))
  refine wpQuiet_nil ?_
  intro W hW
  obtain ⟨m2, rfl⟩ := hW
  go_wp2_with fail
  go_ret2
  refine ⟨?_, by obtain ⟨m, rfl⟩ := HM.out; exact ⟨m + m2, by rw [World.drewN_drewN]⟩⟩
  push_cast
  rfl
theorem next_spine1 {k : Nat} (h : Ni nb H S w) (hs : Hs H S) (hd : d < H) (hk : k < lvs H * S) (hl : d / 2 = k % lvs H) : Calls Try.prog 40 #[.pointer (some ⟨nb, 0, none⟩), .int .i64 ((2 * H + lvs H * S + k : Nat) : Int), .int .i64 d, .int .i64 path] w (NextIs (((H + d : Nat) : Int), false) w) := by
  obtain ⟨h1, h2⟩ := hs.h
  obtain ⟨h5, h6⟩ := hs.lv
  have hkb : k ≤ 16 := by have := hs.ls; omega
  have hkk := net_kind4 (p := 2 * H + lvs H * S + k) h hs (by omega) (by rw [nP_ls]; omega)
  rw [show 2 * H + lvs H * S + k - 2 * H - lvs H * S = k by omega] at hkk
  have hq : ((k : Int) % (lvs H : Int)) = ((k % lvs H : Nat) : Int) := by push_cast; rfl
  have HQ := Lib.hid hq
  clear hq
  go_enter Try.func40, Try.ntmps40
  go_wp2_with fail
  refine (hkk).mono ?_
  rintro e w1 ⟨rfl, hm⟩
  have HM := Lib.hid hm
  have hN : Ni nb H S w1 := by obtain ⟨m, rfl⟩ := hm; exact Ob.dn h
  clear hm hkk
  go_wp2_with fail
  refine (net_has nb H S d w1 hN hd hs).mono ?_
  rintro e w2 ⟨rfl, rfl⟩
  obtain ⟨l0, c0, c1, c2⟩ := hN.cells
  go_wp2_with fail
  rw [HQ.out]
  refine (net_down_yes nb H S (k % lvs H) d w1 hN hd hs hl).mono ?_
  rintro e w2 ⟨rfl, rfl⟩
  go_wp2_with fail
  go_ret2
  exact ⟨rfl, HM.out⟩
theorem next_spine2 {k : Nat} (h : Ni nb H S w) (hs : Hs H S) (hd : d < H) (hk : k < lvs H * S) (hl : d / 2 ≠ k % lvs H) : Calls Try.prog 40 #[.pointer (some ⟨nb, 0, none⟩), .int .i64 ((2 * H + lvs H * S + k : Nat) : Int), .int .i64 d, .int .i64 path] w (NextIs (-1, false) w) := by
  obtain ⟨h1, h2⟩ := hs.h
  obtain ⟨h5, h6⟩ := hs.lv
  have hkb : k ≤ 16 := by have := hs.ls; omega
  have hkk := net_kind4 (p := 2 * H + lvs H * S + k) h hs (by omega) (by rw [nP_ls]; omega)
  rw [show 2 * H + lvs H * S + k - 2 * H - lvs H * S = k by omega] at hkk
  have hq : ((k : Int) % (lvs H : Int)) = ((k % lvs H : Nat) : Int) := by push_cast; rfl
  have HQ := Lib.hid hq
  clear hq
  go_enter Try.func40, Try.ntmps40
  go_wp2_with fail
  refine (hkk).mono ?_
  rintro e w1 ⟨rfl, hm⟩
  have HM := Lib.hid hm
  have hN : Ni nb H S w1 := by obtain ⟨m, rfl⟩ := hm; exact Ob.dn h
  clear hm hkk
  go_wp2_with fail
  refine (net_has nb H S d w1 hN hd hs).mono ?_
  rintro e w2 ⟨rfl, rfl⟩
  obtain ⟨l0, c0, c1, c2⟩ := hN.cells
  go_wp2_with fail
  rw [HQ.out]
  refine (net_down_no nb H S (k % lvs H) d w1 hN hd hs hl).mono ?_
  rintro e w2 ⟨rfl, rfl⟩
  go_wp2_with fail
  go_ret2
  exact ⟨rfl, HM.out⟩
theorem net_next (h : Ni nb H S w) (hs : Hs H S) (hd : d < H) (hp : p < nP H S) : Calls Try.prog 40 #[.pointer (some ⟨nb, 0, none⟩), .int .i64 p, .int .i64 d, .int .i64 path] w (NextIs (nxt H S p d path) w) := by
  unfold nxt
  by_cases h1 : p < H
  · rw [if_pos h1]
    by_cases h2 : d / 2 = p / 2
    · rw [if_pos h2]; exact next_up1 h hs hd h1 h2
    · rw [if_neg h2]; exact next_up2 h hs hd h1 h2
  · rw [if_neg h1]
    by_cases h2 : p < 2 * H
    · rw [if_pos h2]; exact next_down h hs hd (by omega) h2
    · rw [if_neg h2]
      by_cases h3 : p < 2 * H + lvs H * S
      · rw [if_pos h3]
        obtain ⟨k, rfl⟩ : ∃ k, p = 2 * H + k := ⟨p - 2 * H, by omega⟩
        rw [Nat.add_sub_cancel_left]
        exact next_leafup h hs hd (by omega)
      · rw [if_neg h3]
        obtain ⟨k, rfl⟩ : ∃ k, p = 2 * H + lvs H * S + k := ⟨p - (2 * H + lvs H * S), by omega⟩
        rw [show 2 * H + lvs H * S + k - 2 * H - lvs H * S = k by omega]
        rw [nP_ls] at hp
        by_cases h4 : d / 2 = k % lvs H
        · rw [if_pos h4]; exact next_spine1 h hs hd (by omega) h4
        · rw [if_neg h4]; exact next_spine2 h hs hd (by omega) h4
theorem net_host (h : Ni nb H S w) (hs : Hs H S) (hp : H ≤ p) (hp2 : p < 2 * H) : Calls Try.prog 41 #[.pointer (some ⟨nb, 0, none⟩), .int .i64 p] w fun e w' => e = .returned (.int .i64 ((p - H : Nat) : Int)) ∧ ∃ m, w' = w.drewN m := by
  go_enter Try.func41, Try.ntmps41
  go_wp2_with fail
  refine (net_kind2 h hs hp hp2).mono ?_
  rintro e w1 ⟨rfl, hm⟩
  have HM := Lib.hid hm
  clear hm
  go_wp2_with fail
  go_ret
  exact ⟨rfl, HM.out⟩
/-- where a frame goes from a port, what it may be -/
theorem nxt_lt : (nxt H S p d path).2 = true ↔ H ≤ p ∧ p < 2 * H := by
  unfold nxt
  split
  · split <;> simp <;> omega
  · split
    · simp; omega
    · split
      · simp; omega
      · split <;> simp <;> omega
end
end Go.Proofs.Ytoihhidoafgoaaa
