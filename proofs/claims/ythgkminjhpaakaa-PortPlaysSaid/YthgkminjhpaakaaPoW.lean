/- A port (chapter 13): what the document fixes: awake. -/
import Derived.Test.YthgkminjhpaakaaPoT
namespace Go.Proofs.Ythgkminjhpaakaa
open Go.RowKit

def cr1 : It := ⟨11, 0, 1, 0, 0, 0, 0, 0, 0, none, 0, 0, 0, []⟩
theorem Po.ge {b B0 : Nat} {l : Pl} {p : Pp} {w : World} (h : Po b B0 l p w) {x : Nat} (hx : PM b l x) : B0 ≤ x := by
  rcases hx with rfl | rfl | hx | rfl | ⟨i, hi, hx⟩
  · exact h.base
  · exact h.pbase
  · exact (h.own.lt x hx).1
  · exact h.qu.base
  · exact ((h.qu.own i hi).lt x hx).1
set_option maxRecDepth 100000 in
set_option maxHeartbeats 4000000 in
theorem awake_w (w : World) : Calls Try.prog 8 #[] w fun e w' => e = .returned (.bool true) ∧ Below w.heap.size w w' := by
  go_enter Try.func8, Try.ntmps8
  go_wp2_with fail
  refine (new_pt 100 1 false w (by omega) (by omega)).mono ?_
  rintro e w1 ⟨b, l, rfl, hp1, hb1⟩
  have P1 := Lib.hid hp1
  have HB1 := Lib.hid hb1
  clear hp1 hb1
  go_upto_region 5 with fail
  have OX := Lib.hid (Ob.new w1 #[.int .i64 11, .int .i64 0, .int .i64 1, .int .i64 0, .int .u64 0, .int .i64 0, .int .i64 0, .int .i64 0, .int .i64 0, .slice none 0 0, .int .i64 0] TIt)
  have P2 := Lib.hid (P1.out.below ((Below.refl _ w1).alloc (Nat.le_refl _) (.cells #[.int .i64 11, .int .i64 0, .int .i64 1, .int .i64 0, .int .u64 0, .int .i64 0, .int .i64 0, .int .i64 0, .int .i64 0, .slice none 0 0, .int .i64 0] TIt)))
  have HB2 := Lib.hid (HB1.out.alloc HB1.out.size (.cells #[.int .i64 11, .int .i64 0, .int .i64 1, .int .i64 0, .int .u64 0, .int .i64 0, .int .i64 0, .int .i64 0, .int .i64 0, .slice none 0 0, .int .i64 0] TIt))
  obtain ⟨X, HX⟩ : ∃ X, Hid (w1.heap.size = X) := ⟨_, Lib.hid rfl⟩
  rw [HX.out] at OX ⊢
  generalize w1.alloc (.cells #[.int .i64 11, .int .i64 0, .int .i64 1, .int .i64 0, .int .u64 0, .int .i64 0, .int .i64 0, .int .i64 0, .int .i64 0, .slice none 0 0, .int .i64 0] TIt) = w2 at *
  have hlt : ∀ y, PM b l y → y < X := fun y hy => by
    obtain ⟨T, ⟨cs, hT⟩, _⟩ := P1.out.ty hy
    have := heap_lt hT
    have := HX.out
    omega
  have hXM : ¬ PM b l X := fun hh => absurd (hlt X hh) (Nat.lt_irrefl _)
  have lx := OX.out.lt
  have cells := (OX.out.blk).2.1
  have cx0 : w2.cell? ⟨X, 0, none⟩ = some (.int .i64 11) := cells 0
  have cx1 : w2.cell? ⟨X, 1, none⟩ = some (.int .i64 0) := cells 1
  have cx2 : w2.cell? ⟨X, 2, none⟩ = some (.int .i64 1) := cells 2
  have cx3 : w2.cell? ⟨X, 3, none⟩ = some (.int .i64 0) := cells 3
  have cx4 : w2.cell? ⟨X, 4, none⟩ = some (.int .u64 0) := cells 4
  have cx5 : w2.cell? ⟨X, 5, none⟩ = some (.int .i64 0) := cells 5
  have cx6 : w2.cell? ⟨X, 6, none⟩ = some (.int .i64 0) := cells 6
  have cx7 : w2.cell? ⟨X, 7, none⟩ = some (.int .i64 0) := cells 7
  have cx8 : w2.cell? ⟨X, 8, none⟩ = some (.int .i64 0) := cells 8
  have cx9 : w2.cell? ⟨X, 9, none⟩ = some (.slice none 0 0) := cells 9
  have cx10 : w2.cell? ⟨X, 10, none⟩ = some (.int .i64 0) := cells 10
  clear cells
  refine wp_run (M := (PM b l)) (stages [([true, true, false, true, true, false, false, false], 2), ([false, false, false, false, false, false, false, false], 5)] [false, false, false, false, false, false, true, true]) (by kernel_rfl) (by kernel_rfl) ?_
  refine run_stage rfl ?_
  simp only [pickAt]
  repeat (go_big_quiet_step (fail))
  refine wpQuiet_nil ?_
  refine run_want rfl ?_
  intro A hA
  go_simp
  refine (put_cred b w.heap.size l (newP 100 1 false) cr1 _ (P2.out.keptF (Kept.drew _ _)) (Rd.nil _ _) (by decide) rfl rfl (by decide)).mono ?_
  rintro e w3 ⟨rfl, a3, c3, l3, P3', K3', F3'⟩
  have P3 := Lib.hid P3'
  have F3 := Lib.hid F3'
  have K3 := Lib.hid ((Kept.drew (PM b l) w2).trans K3')
  refine hA _ _ (K3') ?_
  try simp only [Act.put, List.setIfInBounds_toArray, List.set_cons_zero, List.set_cons_succ]
  clear A hA
  clear P3' K3' F3'
  refine run_stage rfl ?_
  simp only [pickAt]
  repeat (go_big_quiet_step (fail))
  refine wpQuiet_nil ?_
  refine run_want rfl ?_
  intro A hA
  go_simp
  refine (put_cfull b w.heap.size l3 _ cr1 _ P3.out rfl rfl).mono ?_
  rintro e w4 ⟨rfl, hb4⟩
  have P4 := Lib.hid (P3.out.below hb4)
  have HB4 := Lib.hid (K3.out.trans (Kept.of_below hb4))
  refine hA _ _ ((Kept.of_below hb4)) ?_
  try simp only [Act.put, List.setIfInBounds_toArray, List.set_cons_zero, List.set_cons_succ]
  clear A hA
  refine run_last ?_
  simp only [pickAt]
  repeat (go_big_quiet_step (fail))
  refine wpQuiet_nil ?_
  clear hb4
  have OX4 := Lib.hid (OX.out.kept HB4.out hXM)
  have HD : (newP 100 1 false).pc.due 0 = true := by decide
  clear cx0 cx1 cx2 cx3 cx4 cx5 cx6 cx7 cx8 cx9 cx10 lx
  have lx := OX4.out.lt
  go_wp2_with fail
  refine (take_cred b w.heap.size l3 _ (cr1.data a3 c3) [] 0 0 _ P4.out rfl (show max (0 : Int) 0 = 0 from rfl) HD (show (1 : Nat) ≤ 1000000 by decide)).mono ?_
  rintro e w5 ⟨rfl, l5, P5', K5', F5'⟩
  have hlt4 : ∀ y, PM b l3 y → y ≠ X := fun y hy hh => by
    subst hh
    rcases F3.out _ hy with h | h
    · exact hXM h
    · have := OX.out.lt
      have : (w2.drew).heap.size = w2.heap.size := rfl
      omega
  have OX5 := Lib.hid (OX4.out.kept K5' (fun hh => hlt4 X hh rfl))
  have HB5 := Lib.hid ((HB2.out.trans (HB4.out.belowAt HB2.out.size fun y hy => P2.out.ge hy)).trans (K5'.belowAt (Nat.le_trans HB2.out.size HB4.out.size) fun y hy => P4.out.ge hy))
  have P5 := Lib.hid P5'
  clear P5' K5' F5' hlt4 lx
  have lx := OX5.out.lt
  unfold boxV
  go_upto_region 7 with fail
  have HB6 := Lib.hid (HB5.out.alloc HB5.out.size (.cells #[.int .i64 (cr1.data a3 c3).kind, .int .i64 (cr1.data a3 c3).src, .int .i64 (cr1.data a3 c3).dst, .int .i64 (cr1.data a3 c3).prio, .int .u64 (cr1.data a3 c3).msg, .int .i64 (cr1.data a3 c3).off, .int .i64 (cr1.data a3 c3).len, .int .i64 (cr1.data a3 c3).total, .int .i64 (cr1.data a3 c3).num, .slice (cr1.data a3 c3).da (cr1.data a3 c3).dn (cr1.data a3 c3).dc, .int .i64 (cr1.data a3 c3).path] TIt))
  have P6 := Lib.hid (P5.out.below ((Below.refl _ w5).alloc (Nat.le_refl _) (.cells #[.int .i64 (cr1.data a3 c3).kind, .int .i64 (cr1.data a3 c3).src, .int .i64 (cr1.data a3 c3).dst, .int .i64 (cr1.data a3 c3).prio, .int .u64 (cr1.data a3 c3).msg, .int .i64 (cr1.data a3 c3).off, .int .i64 (cr1.data a3 c3).len, .int .i64 (cr1.data a3 c3).total, .int .i64 (cr1.data a3 c3).num, .slice (cr1.data a3 c3).da (cr1.data a3 c3).dn (cr1.data a3 c3).dc, .int .i64 (cr1.data a3 c3).path] TIt)))
  have OX6 := Lib.hid (OX5.out.alloc (.cells #[.int .i64 (cr1.data a3 c3).kind, .int .i64 (cr1.data a3 c3).src, .int .i64 (cr1.data a3 c3).dst, .int .i64 (cr1.data a3 c3).prio, .int .u64 (cr1.data a3 c3).msg, .int .i64 (cr1.data a3 c3).off, .int .i64 (cr1.data a3 c3).len, .int .i64 (cr1.data a3 c3).total, .int .i64 (cr1.data a3 c3).num, .slice (cr1.data a3 c3).da (cr1.data a3 c3).dn (cr1.data a3 c3).dc, .int .i64 (cr1.data a3 c3).path] TIt))
  generalize w5.alloc (.cells #[.int .i64 (cr1.data a3 c3).kind, .int .i64 (cr1.data a3 c3).src, .int .i64 (cr1.data a3 c3).dst, .int .i64 (cr1.data a3 c3).prio, .int .u64 (cr1.data a3 c3).msg, .int .i64 (cr1.data a3 c3).off, .int .i64 (cr1.data a3 c3).len, .int .i64 (cr1.data a3 c3).total, .int .i64 (cr1.data a3 c3).num, .slice (cr1.data a3 c3).da (cr1.data a3 c3).dn (cr1.data a3 c3).dc, .int .i64 (cr1.data a3 c3).path] TIt) = w6 at *
  clear lx
  have lx := OX6.out.lt
  have cells := (OX6.out.blk).2.1
  have dx0 : w6.cell? ⟨X, 0, none⟩ = some (.int .i64 11) := cells 0
  have dx1 : w6.cell? ⟨X, 1, none⟩ = some (.int .i64 0) := cells 1
  have dx2 : w6.cell? ⟨X, 2, none⟩ = some (.int .i64 1) := cells 2
  have dx3 : w6.cell? ⟨X, 3, none⟩ = some (.int .i64 0) := cells 3
  have dx4 : w6.cell? ⟨X, 4, none⟩ = some (.int .u64 0) := cells 4
  have dx5 : w6.cell? ⟨X, 5, none⟩ = some (.int .i64 0) := cells 5
  have dx6 : w6.cell? ⟨X, 6, none⟩ = some (.int .i64 0) := cells 6
  have dx7 : w6.cell? ⟨X, 7, none⟩ = some (.int .i64 0) := cells 7
  have dx8 : w6.cell? ⟨X, 8, none⟩ = some (.int .i64 0) := cells 8
  have dx9 : w6.cell? ⟨X, 9, none⟩ = some (.slice none 0 0) := cells 9
  have dx10 : w6.cell? ⟨X, 10, none⟩ = some (.int .i64 0) := cells 10
  clear cells
  go_wp2_with fail
  refine (credits_pt _ _ _ _ _ P6.out).mono ?_
  rintro e w7 ⟨rfl, rfl⟩
  have h0 : (0 : Nat) = 0 := rfl
  go_wp2_with fail
  refine (bytes_any cr1 _ (by decide)).mono ?_
  rintro e w8 ⟨rfl, hb8⟩
  have HB8 := Lib.hid (HB6.out.trans (hb8.mono HB6.out.size))
  have hcb : cr1.bytes = 26 := rfl
  rw [hcb]
  go_wp2_with fail
  go_ret
  exact ⟨rfl, HB8.out⟩
end Go.Proofs.Ythgkminjhpaakaa
