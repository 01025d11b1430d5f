/- A port (chapter 13): frames put that are no credits. -/
import Derived.Test.YthgkminjhpaakaaPoT
namespace Go.Proofs.Ythgkminjhpaakaa
open Go.RowKit

/-- the queue is another -/
theorem Po.queue {b B0 : Nat} {l : Pl} {p : Pp} {w w' : World} (h : Po b B0 l p w) (hk : Kept (QM l.q l.V) w w') {V' : Nat → Value} {u' : Int} {L' : Nat → List It} (hq : Qu l.q B0 V' p.room u' L' w') (hf : Fresh w l.V V') (hd : ∀ x i, i < 8 → x ∈ L' i → p.has x ∨ Da B0 w' x) : PoPost b B0 l { p with u := u', L := L' } w w' := by
  have hn : ∀ {g T}, Ty w g T → T ≠ 93 → T ≠ 97 → ¬ QM l.q l.V g := fun hT h1 h2 hh => by
    rcases h.qu.ty hh with h3 | h3
    · exact h1 (hT.one h3)
    · exact h2 (hT.one h3)
  have hT : ∀ g, QM l.q l.V g → g < w.heap.size → ∃ T, Ty w g T ∧ T ≠ TU := fun g hg _ => by
    rcases h.qu.ty hg with h3 | h3
    · exact ⟨_, h3, by decide⟩
    · exact ⟨_, h3, by decide⟩
  refine ⟨{ l with V := V' }, ⟨h.ob.kept hk (hn h.ob.ty (by decide) (by decide)), own_kept h.own hk fun g hg => hn (own_ty h.own hg) (by decide) (by decide), Ob.kept h.pc hk (hn (Ob.ty h.pc) (by decide) (by decide)), hq, h.base, h.pbase, h.pok, fun x hx => ?_⟩, hk.mono fun y _ hy => .inr (.inr (.inr hy)), fun x hx => ?_⟩
  · rcases hx with hx | ⟨i, hi, hx⟩
    · exact (h.data x (.inl hx)).keptT hk hT
    · rcases hd x i hi hx with hx | hx
      · exact (h.data x hx).keptT hk hT
      · exact hx
  · rcases hx with hx | hx | hx | hx | ⟨i, hi, hx⟩
    · exact .inl (.inl hx)
    · exact .inl (.inr (.inl hx))
    · exact .inl (.inr (.inr (.inl hx)))
    · exact .inl (.inr (.inr (.inr (.inl hx))))
    · rcases hf i hi with h3 | h3
      · exact .inl (.inr (.inr (.inr (.inr ⟨i, hi, by rw [← h3]; exact hx⟩))))
      · exact .inr (h3 x hx)
theorem PoPost.before {b B0 : Nat} {l : Pl} {p : Pp} {w w1 w' : World} (h : PoPost b B0 l p w1 w') (hb : Below w.heap.size w w1) : PoPost b B0 l p w w' := by
  obtain ⟨l', h1, h2, h3⟩ := h
  refine ⟨l', h1, (Kept.of_below hb).trans h2, fun x hx => ?_⟩
  rcases h3 x hx with h | h
  · exact .inl h
  · exact .inr (Nat.le_trans hb.size h)
def PutQ (b B0 : Nat) (l : Pl) (p : Pp) (i : Nat) (x : It) (w : World) (e : Ending) (w' : World) : Prop := e = .returned (.int .i64 1) ∧ ∃ a c, PoPost b B0 l { p with u := p.u + x.sz, L := upd p.L i (p.L i ++ [x.data a c]) } w w'
set_option maxRecDepth 100000 in
set_option maxHeartbeats 4000000 in
theorem put_line (b B0 : Nat) (l : Pl) (p : Pp) (i : Nat) (x : It) (w : World) (h : Po b B0 l p w) (hr : Rd w 1 (.slice x.da x.dn x.dc) x.dn (bcells x.bs)) (hn : x.dn ≤ 1073741824) (hk : (x.kind == 11) = false) (hxl : -1000000000 ≤ x.len ∧ x.len ≤ 1073741824) (hi : i < 8) (hp : clampI x.prio 0 7 = i) (hroom : 0 ≤ p.room ∧ p.room ≤ 1099511627776) (hu : 0 ≤ p.u ∧ p.u ≤ p.room) (hf : x.sz ≤ p.room - p.u) (hlen : (p.L i).length ≤ 1000000) : Calls Try.prog 10 #[.pointer (some ⟨b, 0, none⟩), x.val] w (PutQ b B0 l p i x w) := by
  unfold It.val
  have HP := Lib.hid h
  have HR := Lib.hid hr
  have HI := Lib.hid hp
  clear h hr hp
  go_enter Try.func10, Try.ntmps10
  go_upto_region 1 with fail
  have OX := Lib.hid (Ob.new w #[.int .i64 x.kind, .int .i64 x.src, .int .i64 x.dst, .int .i64 x.prio, .int .u64 x.msg, .int .i64 x.off, .int .i64 x.len, .int .i64 x.total, .int .i64 x.num, .slice x.da x.dn x.dc, .int .i64 x.path] TIt)
  have HB := Lib.hid ((Below.refl w.heap.size w).alloc (Nat.le_refl _) (.cells #[.int .i64 x.kind, .int .i64 x.src, .int .i64 x.dst, .int .i64 x.prio, .int .u64 x.msg, .int .i64 x.off, .int .i64 x.len, .int .i64 x.total, .int .i64 x.num, .slice x.da x.dn x.dc, .int .i64 x.path] TIt))
  have P1 := Lib.hid (HP.out.below HB.out)
  have R1 := Lib.hid (HR.out.below HB.out)
  generalize w.alloc (.cells #[.int .i64 x.kind, .int .i64 x.src, .int .i64 x.dst, .int .i64 x.prio, .int .u64 x.msg, .int .i64 x.off, .int .i64 x.len, .int .i64 x.total, .int .i64 x.num, .slice x.da x.dn x.dc, .int .i64 x.path] TIt) = w1 at *
  obtain ⟨X, HX⟩ : ∃ X, Hid (w.heap.size = X) := ⟨_, Lib.hid rfl⟩
  rw [HX.out] at OX ⊢
  obtain ⟨lx, cx, fx⟩ := OX.out.blk
  have cx0 : w1.cell? ⟨X, 0, none⟩ = some (.int .i64 x.kind) := cx 0
  have cx1 : w1.cell? ⟨X, 1, none⟩ = some (.int .i64 x.src) := cx 1
  have cx2 : w1.cell? ⟨X, 2, none⟩ = some (.int .i64 x.dst) := cx 2
  have cx3 : w1.cell? ⟨X, 3, none⟩ = some (.int .i64 x.prio) := cx 3
  have cx4 : w1.cell? ⟨X, 4, none⟩ = some (.int .u64 x.msg) := cx 4
  have cx5 : w1.cell? ⟨X, 5, none⟩ = some (.int .i64 x.off) := cx 5
  have cx6 : w1.cell? ⟨X, 6, none⟩ = some (.int .i64 x.len) := cx 6
  have cx7 : w1.cell? ⟨X, 7, none⟩ = some (.int .i64 x.total) := cx 7
  have cx8 : w1.cell? ⟨X, 8, none⟩ = some (.int .i64 x.num) := cx 8
  have cx9 : w1.cell? ⟨X, 9, none⟩ = some (.slice x.da x.dn x.dc) := cx 9
  have cx10 : w1.cell? ⟨X, 10, none⟩ = some (.int .i64 x.path) := cx 10
  clear cx
  have cells := (P1.out.ob.blk).2.1
  have lb := P1.out.ob.lt
  have cb0 : w1.cell? ⟨b, 0, none⟩ = some (.pointer (some ⟨l.q, 0, none⟩)) := cells 0
  clear cells
  go_wp2_with fail
  refine wp_region_quiet_lit (by kernel_rfl) (by kernel_rfl) ?_
  try simp only [List.append]
  repeat (first | go_big_quiet_step (fail) | quiet_step (fail))
  refine wpQuiet_nil ?_
  intro W hW
  have PW : Hid (Po b B0 l p W) := by obtain ⟨n, rfl⟩ := hW; exact Lib.hid (P1.out.keptF (Kept.dn _ _ _))
  have RW : Hid (Rd W 1 (.slice x.da x.dn x.dc) x.dn (bcells x.bs)) := by obtain ⟨n, rfl⟩ := hW; exact Lib.hid R1.out.dn
  have OW : Hid (Ob W X #[.int .i64 x.kind, .int .i64 x.src, .int .i64 x.dst, .int .i64 x.prio, .int .u64 x.msg, .int .i64 x.off, .int .i64 x.len, .int .i64 x.total, .int .i64 x.num, .slice x.da x.dn x.dc, .int .i64 x.path] TIt) := by obtain ⟨n, rfl⟩ := hW; exact Lib.hid OX.out.dn
  have HBW : Hid (Below w.heap.size w W) := by obtain ⟨n, rfl⟩ := hW; exact Lib.hid (below_dn HB.out)
  clear hW lx fx cx0 cx1 cx2 cx3 cx4 cx5 cx6 cx7 cx8 cx9 cx10 lb cb0
  obtain ⟨lx, cx, fx⟩ := OW.out.blk
  have cx0 : W.cell? ⟨X, 0, none⟩ = some (.int .i64 x.kind) := cx 0
  have cx1 : W.cell? ⟨X, 1, none⟩ = some (.int .i64 x.src) := cx 1
  have cx2 : W.cell? ⟨X, 2, none⟩ = some (.int .i64 x.dst) := cx 2
  have cx3 : W.cell? ⟨X, 3, none⟩ = some (.int .i64 x.prio) := cx 3
  have cx4 : W.cell? ⟨X, 4, none⟩ = some (.int .u64 x.msg) := cx 4
  have cx5 : W.cell? ⟨X, 5, none⟩ = some (.int .i64 x.off) := cx 5
  have cx6 : W.cell? ⟨X, 6, none⟩ = some (.int .i64 x.len) := cx 6
  have cx7 : W.cell? ⟨X, 7, none⟩ = some (.int .i64 x.total) := cx 7
  have cx8 : W.cell? ⟨X, 8, none⟩ = some (.int .i64 x.num) := cx 8
  have cx9 : W.cell? ⟨X, 9, none⟩ = some (.slice x.da x.dn x.dc) := cx 9
  have cx10 : W.cell? ⟨X, 10, none⟩ = some (.int .i64 x.path) := cx 10
  clear cx
  have cells := (PW.out.ob.blk).2.1
  have lb := PW.out.ob.lt
  have cb0 : W.cell? ⟨b, 0, none⟩ = some (.pointer (some ⟨l.q, 0, none⟩)) := cells 0
  clear cells
  go_wp2_with fail
  have hbM : ¬ QM l.q l.V b := fun hh => by
    rcases PW.out.qu.ty hh with h3 | h3
    · exact absurd (h3.one PW.out.ob.ty) (by decide)
    · exact absurd (h3.one PW.out.ob.ty) (by decide)
  have hXM : ¬ QM l.q l.V X := fun hh => by
    rcases PW.out.qu.ty hh with h3 | h3
    · exact absurd (h3.one OW.out.ty) (by decide)
    · exact absurd (h3.one OW.out.ty) (by decide)
  refine wp_run (M := (QM l.q l.V)) (stages [([true, true, true, true, true, true, true, false, true, false, false, false, false], 7), ([false, false, false, false, false, false, false, false, false, false, false, false, false], 9), ([false, false, false, false, false, false, false, false, false, false, false, false, false], 10)] [false, false, false, false, false, false, false, false, false, false, false, true, true]) (by kernel_rfl) (by kernel_rfl) ?_
  refine run_stage rfl ?_
  simp only [pickAt]
  repeat (go_big_quiet_step (fail))
  refine wpQuiet_nil ?_
  refine run_want rfl ?_
  intro A hA
  go_simp
  refine (clamp_any _ _ _ _).mono ?_
  rintro e w' ⟨rfl, rfl⟩
  rw [HI.out]
  refine hA _ _ ((Kept.refl _ _)) ?_
  try simp only [Act.put, List.setIfInBounds_toArray, List.set_cons_zero, List.set_cons_succ]
  clear A hA
  refine run_stage rfl ?_
  simp only [pickAt]
  repeat (go_big_quiet_step (fail))
  refine wpQuiet_nil ?_
  refine run_want rfl ?_
  intro A hA
  go_simp
  have hown := pown x x.bs W.drew (RW.out.kept (Kept.drew (fun _ => False) W) (fun _ _ _ _ h => h)) hn
  unfold It.val at hown
  refine hown.mono ?_
  rintro e w6 ⟨a6, c6, rfl, ho6, hb6⟩
  clear hown
  obtain ⟨y, hy⟩ : ∃ y, x.data a6 c6 = y := ⟨_, rfl⟩
  have HY := Lib.hid hy
  have hd6 : Da B0 w6 y := by
    rw [← hy]
    exact own_baseP ho6 (Nat.le_trans PW.out.base (Nat.le_of_lt lb))
  have hyl : -1000000000 ≤ y.len ∧ y.len ≤ 1073741824 := by rw [← hy]; exact hxl
  have hys : y.sz = x.sz := by rw [← hy]; rfl
  rw [hy]
  clear hy
  have K6 := Lib.hid ((Kept.drew (QM l.q l.V) W).trans (Kept.of_below hb6))
  have P6 := Lib.hid (PW.out.keptF ((Kept.drew _ W).trans (Kept.of_below hb6)))
  have B6 := Lib.hid ((below_dn (n := 1) HBW.out).trans (hb6.mono HBW.out.size))
  have D6 := Lib.hid hd6
  refine hA _ _ (Kept.of_below hb6) ?_
  try simp only [Act.put, List.setIfInBounds_toArray, List.set_cons_zero, List.set_cons_succ]
  clear A hA
  clear hb6 ho6 hd6
  refine run_stage rfl ?_
  simp only [pickAt]
  repeat (go_big_quiet_step (fail))
  refine wpQuiet_nil ?_
  refine run_want rfl ?_
  intro A hA
  go_simp
  refine (push_yes l.q B0 l.V p.room p.u p.L i y _ P6.out.qu hyl hi hroom hu (by rw [hys]; exact hf) hlen).mono ?_
  rintro e w7 ⟨rfl, V7, Q7, K7, F7⟩
  have P7 := Lib.hid (P6.out.queue K7 Q7 F7 (fun z j hj hz => by
    by_cases hji : j = i
    · subst hji
      rw [upd_same] at hz
      rcases List.mem_append.1 hz with hz | hz
      · exact .inl (.inr ⟨j, hj, hz⟩)
      · rw [List.mem_singleton.1 hz]
        exact .inr (D6.out.keptT K7 fun g hg _ => by
          rcases P6.out.qu.ty hg with h3 | h3
          · exact ⟨_, h3, by decide⟩
          · exact ⟨_, h3, by decide⟩)
    · rw [upd_other _ _ hji] at hz
      exact .inl (.inr ⟨j, hj, hz⟩)))
  refine hA _ _ (K7) ?_
  try simp only [Act.put, List.setIfInBounds_toArray, List.set_cons_zero, List.set_cons_succ]
  clear A hA
  clear Q7 K7 F7
  refine run_last ?_
  simp only [pickAt]
  repeat (go_big_quiet_step (fail))
  refine wpQuiet_nil ?_
  go_wp2_with fail
  go_ret
  refine ⟨rfl, a6, c6, ?_⟩
  have := P7.out.before B6.out
  rw [hys] at this
  rw [HY.out]
  exact this
end Go.Proofs.Ythgkminjhpaakaa
