/- A port (chapter 13): frames taken from the lines. -/
import Derived.Test.YthgkminjhpaakaaPoP
namespace Go.Proofs.Ythgkminjhpaakaa
open Go.RowKit

/-- what a port gives from its lines -/
def TakeQ (b B0 : Nat) (l : Pl) (p : Pp) (w : World) (e : Ending) (w' : World) : Prop :=
  (e = .returned (.tuple #[noBox, .bool false]) ∧ (∀ i, i < 8 → p.L i = []) ∧ PoPost b B0 l p w w') ∨
    ∃ (i : Nat) (x : It) (r : List It), i < 8 ∧ p.L i = x :: r ∧ (∀ j, i < j → j < 8 → p.L j = []) ∧ e = .returned (.tuple #[boxV x, .bool true]) ∧ PoPost b B0 l { p with u := p.u - x.sz, L := upd p.L i r } w w'
set_option maxRecDepth 100000 in
set_option maxHeartbeats 4000000 in
theorem take_q0 (b B0 : Nat) (l : Pl) (p : Pp) (now t : Int) (w : World) (h : Po b B0 l p w) (hC : p.C.length = 0) (ht : max p.now now = t) (hu : ∀ i x r, i < 8 → p.L i = x :: r → x.sz ≤ p.u) (hu2 : p.u ≤ 1099511627776) : Calls Try.prog 11 #[.pointer (some ⟨b, 0, none⟩), .int .i64 now] w (TakeQ b B0 l { p with now := t } w) := by
  have HP := Lib.hid h
  have HT := Lib.hid ht
  have HU := Lib.hid hu
  clear h ht hu
  go_enter Try.func11, Try.ntmps11
  go_upto_region 1 with fail
  have OV := Lib.hid (Ob.new w #[.int .i64 0, .int .i64 0, .int .i64 0, .int .i64 0, .int .u64 0, .int .i64 0, .int .i64 0, .int .i64 0, .int .i64 0, .slice none 0 0, .int .i64 0] TIt)
  have HB := Lib.hid ((Below.refl w.heap.size w).alloc (Nat.le_refl _) (.cells #[.int .i64 0, .int .i64 0, .int .i64 0, .int .i64 0, .int .u64 0, .int .i64 0, .int .i64 0, .int .i64 0, .int .i64 0, .slice none 0 0, .int .i64 0] TIt))
  have P1 := Lib.hid (HP.out.below HB.out)
  generalize w.alloc (.cells #[.int .i64 0, .int .i64 0, .int .i64 0, .int .i64 0, .int .u64 0, .int .i64 0, .int .i64 0, .int .i64 0, .int .i64 0, .slice none 0 0, .int .i64 0] TIt) = w1 at *
  obtain ⟨X, HX⟩ : ∃ X, Hid (w.heap.size = X) := ⟨_, Lib.hid rfl⟩
  rw [HX.out] at OV ⊢
  obtain ⟨a, c, hv, _, _⟩ := P1.out.form
  have cells := (P1.out.ob.blk).2.1
  have fb := (P1.out.ob.blk).2.2
  have lb := P1.out.ob.lt
  have cb0 : w1.cell? ⟨b, 0, none⟩ = some (.pointer (some ⟨l.q, 0, none⟩)) := cells 0
  have cb4 : w1.cell? ⟨b, 4, none⟩ = some (.int .i64 p.now) := cells 4
  have HV := Lib.hid hv
  clear cells hv
  go_upto_region 4 with fail
  rw [HT.out]
  have K2 : Hid (Kept (Only b) w1 (w1.setCell ⟨b, 4, none⟩ (.int .i64 t))) := Lib.hid (Kept.refl _ _).setO
  have P2 := Lib.hid (P1.out.onlyB K2.out (p' := { p with now := t }) (Ob.set P1.out.ob 4 _) rfl rfl rfl rfl rfl)
  have OV2 := Lib.hid (OV.out.other ⟨b, 4, none⟩ (.int .i64 t) (fun hh => absurd (Ty.one (hh ▸ OV.out.ty) P1.out.ob.ty) (by decide)))
  clear lb fb cb0 cb4
  generalize w1.setCell ⟨b, 4, none⟩ (.int .i64 t) = w2 at *
  have cells := (P2.out.ob.blk).2.1
  have fb := (P2.out.ob.blk).2.2
  have lb := P2.out.ob.lt
  have cb1 : w2.cell? ⟨b, 1, none⟩ = some (.slice a p.C.length c) := (cells 1).trans (congrArg some HV.out)
  have cb4 : w2.cell? ⟨b, 4, none⟩ = some (.int .i64 t) := cells 4
  have cb5 : w2.cell? ⟨b, 5, none⟩ = some (.pointer (some ⟨l.pb, 0, none⟩)) := cells 5
  clear cells
  have lX := OV2.out.lt
  rw [hC] at cb1
  refine wp_region_quiet_lit (by kernel_rfl) (by kernel_rfl) ?_
  try simp only [List.append]
  repeat (first | go_big_quiet_step (fail) | quiet_step (fail))
  refine wpQuiet_nil ?_
  intro w4 hw4
  have P4 : Hid (Po b B0 l { p with now := t } w4) := by obtain ⟨n, rfl⟩ := hw4; exact Lib.hid (P2.out.keptF (Kept.dn _ _ _))
  have OV4 : Hid (Ob w4 X #[.int .i64 0, .int .i64 0, .int .i64 0, .int .i64 0, .int .u64 0, .int .i64 0, .int .i64 0, .int .i64 0, .int .i64 0, .slice none 0 0, .int .i64 0] TIt) := by obtain ⟨n, rfl⟩ := hw4; exact Lib.hid OV2.out.dn
  have K4 : Hid (Kept (PM b l) w w4) := by obtain ⟨n, rfl⟩ := hw4; exact Lib.hid (((Kept.of_below HB.out).trans (K2.out.mono fun y _ hy => .inl hy)).dnR n)
  clear hw4 lb fb cb1 cb4 cb5 lX
  have lXw := OV4.out.lt
  have hvX : ∀ y, PM b l y → y ≠ X := fun y hy hh => by
    subst hh
    obtain ⟨T, ⟨cs, hT⟩, _⟩ := HP.out.ty hy
    have := heap_lt hT
    have := HX.out
    omega
  have hqX : ¬ QM l.q l.V X := fun hh => hvX X (.inr (.inr (.inr hh))) rfl
  have cells := (P4.out.ob.blk).2.1
  have lb := P4.out.ob.lt
  have cb0 : w4.cell? ⟨b, 0, none⟩ = some (.pointer (some ⟨l.q, 0, none⟩)) := cells 0
  clear cells
  go_wp2_with fail
  refine (pop_any l.q B0 l.V p.room p.u p.L w4 P4.out.qu HU.out hu2).mono ?_
  intro e w5 hpop
  rcases hpop with ⟨rfl, hnone, hb5⟩ | ⟨i, x, r, V', hi, hL, hab, rfl, hq5, hk5, hf5⟩
  · have P5 := Lib.hid (P4.out.below hb5)
    have OV5 := Lib.hid (OV4.out.below hb5)
    have K5 := Lib.hid (K4.out.trans (Kept.of_below hb5))
    have HN := Lib.hid hnone
    clear hb5 hnone lb cb0
    unfold noBox
    go_upto_region 9 with fail
    have OI : Hid (Ob (w5.alloc (.cells #[.int .i64 0, .int .i64 0, .int .i64 0, .int .i64 0, .int .u64 0, .int .i64 0, .int .i64 0, .int .i64 0, .int .i64 0, .slice none 0 0, .int .i64 0] TIt)) w5.heap.size #[.int .i64 0, .int .i64 0, .int .i64 0, .int .i64 0, .int .u64 0, .int .i64 0, .int .i64 0, .int .i64 0, .int .i64 0, .slice none 0 0, .int .i64 0] TIt) := Lib.hid (Ob.new _ _ _)
    have P6 := Lib.hid (P5.out.keptF ((Kept.refl _ _).alloc (.cells #[.int .i64 0, .int .i64 0, .int .i64 0, .int .i64 0, .int .u64 0, .int .i64 0, .int .i64 0, .int .i64 0, .int .i64 0, .slice none 0 0, .int .i64 0] TIt)))
    have OV6 := Lib.hid (OV5.out.alloc (.cells #[.int .i64 0, .int .i64 0, .int .i64 0, .int .i64 0, .int .u64 0, .int .i64 0, .int .i64 0, .int .i64 0, .int .i64 0, .slice none 0 0, .int .i64 0] TIt))
    have K6 := Lib.hid (K5.out.alloc (.cells #[.int .i64 0, .int .i64 0, .int .i64 0, .int .i64 0, .int .u64 0, .int .i64 0, .int .i64 0, .int .i64 0, .int .i64 0, .slice none 0 0, .int .i64 0] TIt))
    obtain ⟨Z, HZ⟩ : ∃ Z, Hid (w5.heap.size = Z) := ⟨_, Lib.hid rfl⟩
    rw [HZ.out] at OI ⊢
    generalize w5.alloc (.cells #[.int .i64 0, .int .i64 0, .int .i64 0, .int .i64 0, .int .u64 0, .int .i64 0, .int .i64 0, .int .i64 0, .int .i64 0, .slice none 0 0, .int .i64 0] TIt) = w6 at *
    obtain ⟨lz, cz, fz⟩ := OI.out.blk
    have cz0 : w6.cell? ⟨Z, 0, none⟩ = some (.int .i64 0) := cz 0
    have cz1 : w6.cell? ⟨Z, 1, none⟩ = some (.int .i64 0) := cz 1
    have cz2 : w6.cell? ⟨Z, 2, none⟩ = some (.int .i64 0) := cz 2
    have cz3 : w6.cell? ⟨Z, 3, none⟩ = some (.int .i64 0) := cz 3
    have cz4 : w6.cell? ⟨Z, 4, none⟩ = some (.int .u64 0) := cz 4
    have cz5 : w6.cell? ⟨Z, 5, none⟩ = some (.int .i64 0) := cz 5
    have cz6 : w6.cell? ⟨Z, 6, none⟩ = some (.int .i64 0) := cz 6
    have cz7 : w6.cell? ⟨Z, 7, none⟩ = some (.int .i64 0) := cz 7
    have cz8 : w6.cell? ⟨Z, 8, none⟩ = some (.int .i64 0) := cz 8
    have cz9 : w6.cell? ⟨Z, 9, none⟩ = some (.slice none 0 0) := cz 9
    have cz10 : w6.cell? ⟨Z, 10, none⟩ = some (.int .i64 0) := cz 10
    clear cz
    obtain ⟨lx, cx, fx⟩ := OV6.out.blk
    have cx0 : w6.cell? ⟨X, 0, none⟩ = some (.int .i64 0) := cx 0
    have cx1 : w6.cell? ⟨X, 1, none⟩ = some (.int .i64 0) := cx 1
    have cx2 : w6.cell? ⟨X, 2, none⟩ = some (.int .i64 0) := cx 2
    have cx3 : w6.cell? ⟨X, 3, none⟩ = some (.int .i64 0) := cx 3
    have cx4 : w6.cell? ⟨X, 4, none⟩ = some (.int .u64 0) := cx 4
    have cx5 : w6.cell? ⟨X, 5, none⟩ = some (.int .i64 0) := cx 5
    have cx6 : w6.cell? ⟨X, 6, none⟩ = some (.int .i64 0) := cx 6
    have cx7 : w6.cell? ⟨X, 7, none⟩ = some (.int .i64 0) := cx 7
    have cx8 : w6.cell? ⟨X, 8, none⟩ = some (.int .i64 0) := cx 8
    have cx9 : w6.cell? ⟨X, 9, none⟩ = some (.slice none 0 0) := cx 9
    have cx10 : w6.cell? ⟨X, 10, none⟩ = some (.int .i64 0) := cx 10
    clear cx
    go_wp2_with fail
    have hw : (((((((((((w6.setCell ⟨X, 0, none⟩ (.int .i64 0)).setCell ⟨X, 1, none⟩ (.int .i64 0)).setCell ⟨X, 2, none⟩ (.int .i64 0)).setCell ⟨X, 3, none⟩ (.int .i64 0)).setCell ⟨X, 4, none⟩ (.int .u64 0)).setCell ⟨X, 5, none⟩ (.int .i64 0)).setCell ⟨X, 6, none⟩ (.int .i64 0)).setCell ⟨X, 7, none⟩ (.int .i64 0)).setCell ⟨X, 8, none⟩ (.int .i64 0)).setCell ⟨X, 9, none⟩ (.slice none 0 0)).setCell ⟨X, 10, none⟩ (.int .i64 0)) = w6.setCells X 0 [.int .i64 0, .int .i64 0, .int .i64 0, .int .i64 0, .int .u64 0, .int .i64 0, .int .i64 0, .int .i64 0, .int .i64 0, .slice none 0 0, .int .i64 0] := rfl
    rw [hw]
    clear hw cx0 cx1 cx2 cx3 cx4 cx5 cx6 cx7 cx8 cx9 cx10 cz0 cz1 cz2 cz3 cz4 cz5 cz6 cz7 cz8 cz9 cz10 lz fz lx fx
    have OF := Lib.hid (OV6.out.sets [.int .i64 0, .int .i64 0, .int .i64 0, .int .i64 0, .int .u64 0, .int .i64 0, .int .i64 0, .int .i64 0, .int .i64 0, .slice none 0 0, .int .i64 0] rfl)
    have PF := Lib.hid (P6.out.local ((Kept.refl (Only X) w6).setsO (X := X) (show X = X from rfl) [.int .i64 0, .int .i64 0, .int .i64 0, .int .i64 0, .int .u64 0, .int .i64 0, .int .i64 0, .int .i64 0, .int .i64 0, .slice none 0 0, .int .i64 0]) OV6.out.ty (fun hh => hvX X (.inr (.inr (.inl hh))) rfl))
    have KF := Lib.hid (K6.out.setsN (X := X) (Nat.le_of_eq HX.out) [.int .i64 0, .int .i64 0, .int .i64 0, .int .i64 0, .int .u64 0, .int .i64 0, .int .i64 0, .int .i64 0, .int .i64 0, .slice none 0 0, .int .i64 0])
    generalize w6.setCells X 0 [.int .i64 0, .int .i64 0, .int .i64 0, .int .i64 0, .int .u64 0, .int .i64 0, .int .i64 0, .int .i64 0, .int .i64 0, .slice none 0 0, .int .i64 0] = F at *
    obtain ⟨lf, cf, ff⟩ := OF.out.blk
    have cf0 : F.cell? ⟨X, 0, none⟩ = some (.int .i64 0) := cf 0
    have cf1 : F.cell? ⟨X, 1, none⟩ = some (.int .i64 0) := cf 1
    have cf2 : F.cell? ⟨X, 2, none⟩ = some (.int .i64 0) := cf 2
    have cf3 : F.cell? ⟨X, 3, none⟩ = some (.int .i64 0) := cf 3
    have cf4 : F.cell? ⟨X, 4, none⟩ = some (.int .u64 0) := cf 4
    have cf5 : F.cell? ⟨X, 5, none⟩ = some (.int .i64 0) := cf 5
    have cf6 : F.cell? ⟨X, 6, none⟩ = some (.int .i64 0) := cf 6
    have cf7 : F.cell? ⟨X, 7, none⟩ = some (.int .i64 0) := cf 7
    have cf8 : F.cell? ⟨X, 8, none⟩ = some (.int .i64 0) := cf 8
    have cf9 : F.cell? ⟨X, 9, none⟩ = some (.slice none 0 0) := cf 9
    have cf10 : F.cell? ⟨X, 10, none⟩ = some (.int .i64 0) := cf 10
    clear cf
    exact done (.tuple #[noBox, .bool false]) rfl (by simp [noBox, results, Try.results11, go_sem, cf0, cf1, cf2, cf3, cf4, cf5, cf6, cf7, cf8, cf9, cf10]) (.inl ⟨rfl, HN.out, _, PF.out, KF.out, fun z hz => .inl hz⟩)
  · have Q5 := Lib.hid (P4.out.queue (L' := upd p.L i r) (u' := p.u - x.sz) hk5 hq5 hf5 (fun z j hj hz => .inl (.inr ⟨j, hj, by
      by_cases hji : j = i
      · subst hji
        rw [upd_same] at hz
        show z ∈ p.L j
        rw [hL]
        exact List.mem_cons_of_mem _ hz
      · rw [upd_other _ _ hji] at hz
        exact hz⟩)))
    have OV5 := Lib.hid (OV4.out.kept hk5 hqX)
    have HL := Lib.hid hL
    have HA := Lib.hid hab
    clear hk5 hq5 hf5 hL hab lb cb0
    obtain ⟨l5, P5', K5', F5'⟩ := Q5.out
    have P5 := Lib.hid P5'
    have F5 := Lib.hid F5'
    have K5 := Lib.hid (K4.out.trans K5')
    have S4 := Lib.hid K4.out.size
    clear P5' K5' F5'
    unfold boxV
    go_upto_region 9 with fail
    have OI : Hid (Ob (w5.alloc (.cells #[.int .i64 x.kind, .int .i64 x.src, .int .i64 x.dst, .int .i64 x.prio, .int .u64 x.msg, .int .i64 x.off, .int .i64 x.len, .int .i64 x.total, .int .i64 x.num, .slice x.da x.dn x.dc, .int .i64 x.path] TIt)) w5.heap.size #[.int .i64 x.kind, .int .i64 x.src, .int .i64 x.dst, .int .i64 x.prio, .int .u64 x.msg, .int .i64 x.off, .int .i64 x.len, .int .i64 x.total, .int .i64 x.num, .slice x.da x.dn x.dc, .int .i64 x.path] TIt) := Lib.hid (Ob.new _ _ _)
    have P6 := Lib.hid (P5.out.keptF ((Kept.refl _ _).alloc (.cells #[.int .i64 x.kind, .int .i64 x.src, .int .i64 x.dst, .int .i64 x.prio, .int .u64 x.msg, .int .i64 x.off, .int .i64 x.len, .int .i64 x.total, .int .i64 x.num, .slice x.da x.dn x.dc, .int .i64 x.path] TIt)))
    have OV6 := Lib.hid (OV5.out.alloc (.cells #[.int .i64 x.kind, .int .i64 x.src, .int .i64 x.dst, .int .i64 x.prio, .int .u64 x.msg, .int .i64 x.off, .int .i64 x.len, .int .i64 x.total, .int .i64 x.num, .slice x.da x.dn x.dc, .int .i64 x.path] TIt))
    have K6 := Lib.hid (K5.out.alloc (.cells #[.int .i64 x.kind, .int .i64 x.src, .int .i64 x.dst, .int .i64 x.prio, .int .u64 x.msg, .int .i64 x.off, .int .i64 x.len, .int .i64 x.total, .int .i64 x.num, .slice x.da x.dn x.dc, .int .i64 x.path] TIt))
    obtain ⟨Z, HZ⟩ : ∃ Z, Hid (w5.heap.size = Z) := ⟨_, Lib.hid rfl⟩
    rw [HZ.out] at OI ⊢
    generalize w5.alloc (.cells #[.int .i64 x.kind, .int .i64 x.src, .int .i64 x.dst, .int .i64 x.prio, .int .u64 x.msg, .int .i64 x.off, .int .i64 x.len, .int .i64 x.total, .int .i64 x.num, .slice x.da x.dn x.dc, .int .i64 x.path] TIt) = w6 at *
    obtain ⟨lz, cz, fz⟩ := OI.out.blk
    have cz0 : w6.cell? ⟨Z, 0, none⟩ = some (.int .i64 x.kind) := cz 0
    have cz1 : w6.cell? ⟨Z, 1, none⟩ = some (.int .i64 x.src) := cz 1
    have cz2 : w6.cell? ⟨Z, 2, none⟩ = some (.int .i64 x.dst) := cz 2
    have cz3 : w6.cell? ⟨Z, 3, none⟩ = some (.int .i64 x.prio) := cz 3
    have cz4 : w6.cell? ⟨Z, 4, none⟩ = some (.int .u64 x.msg) := cz 4
    have cz5 : w6.cell? ⟨Z, 5, none⟩ = some (.int .i64 x.off) := cz 5
    have cz6 : w6.cell? ⟨Z, 6, none⟩ = some (.int .i64 x.len) := cz 6
    have cz7 : w6.cell? ⟨Z, 7, none⟩ = some (.int .i64 x.total) := cz 7
    have cz8 : w6.cell? ⟨Z, 8, none⟩ = some (.int .i64 x.num) := cz 8
    have cz9 : w6.cell? ⟨Z, 9, none⟩ = some (.slice x.da x.dn x.dc) := cz 9
    have cz10 : w6.cell? ⟨Z, 10, none⟩ = some (.int .i64 x.path) := cz 10
    clear cz
    obtain ⟨lx, cx, fx⟩ := OV6.out.blk
    have cx0 : w6.cell? ⟨X, 0, none⟩ = some (.int .i64 0) := cx 0
    have cx1 : w6.cell? ⟨X, 1, none⟩ = some (.int .i64 0) := cx 1
    have cx2 : w6.cell? ⟨X, 2, none⟩ = some (.int .i64 0) := cx 2
    have cx3 : w6.cell? ⟨X, 3, none⟩ = some (.int .i64 0) := cx 3
    have cx4 : w6.cell? ⟨X, 4, none⟩ = some (.int .u64 0) := cx 4
    have cx5 : w6.cell? ⟨X, 5, none⟩ = some (.int .i64 0) := cx 5
    have cx6 : w6.cell? ⟨X, 6, none⟩ = some (.int .i64 0) := cx 6
    have cx7 : w6.cell? ⟨X, 7, none⟩ = some (.int .i64 0) := cx 7
    have cx8 : w6.cell? ⟨X, 8, none⟩ = some (.int .i64 0) := cx 8
    have cx9 : w6.cell? ⟨X, 9, none⟩ = some (.slice none 0 0) := cx 9
    have cx10 : w6.cell? ⟨X, 10, none⟩ = some (.int .i64 0) := cx 10
    clear cx
    go_wp2_with fail
    have hw : (((((((((((w6.setCell ⟨X, 0, none⟩ (.int .i64 x.kind)).setCell ⟨X, 1, none⟩ (.int .i64 x.src)).setCell ⟨X, 2, none⟩ (.int .i64 x.dst)).setCell ⟨X, 3, none⟩ (.int .i64 x.prio)).setCell ⟨X, 4, none⟩ (.int .u64 x.msg)).setCell ⟨X, 5, none⟩ (.int .i64 x.off)).setCell ⟨X, 6, none⟩ (.int .i64 x.len)).setCell ⟨X, 7, none⟩ (.int .i64 x.total)).setCell ⟨X, 8, none⟩ (.int .i64 x.num)).setCell ⟨X, 9, none⟩ (.slice x.da x.dn x.dc)).setCell ⟨X, 10, none⟩ (.int .i64 x.path)) = w6.setCells X 0 [.int .i64 x.kind, .int .i64 x.src, .int .i64 x.dst, .int .i64 x.prio, .int .u64 x.msg, .int .i64 x.off, .int .i64 x.len, .int .i64 x.total, .int .i64 x.num, .slice x.da x.dn x.dc, .int .i64 x.path] := rfl
    rw [hw]
    clear hw cx0 cx1 cx2 cx3 cx4 cx5 cx6 cx7 cx8 cx9 cx10 cz0 cz1 cz2 cz3 cz4 cz5 cz6 cz7 cz8 cz9 cz10 lz fz lx fx
    have OF := Lib.hid (OV6.out.sets [.int .i64 x.kind, .int .i64 x.src, .int .i64 x.dst, .int .i64 x.prio, .int .u64 x.msg, .int .i64 x.off, .int .i64 x.len, .int .i64 x.total, .int .i64 x.num, .slice x.da x.dn x.dc, .int .i64 x.path] rfl)
    have PF := Lib.hid (P6.out.local ((Kept.refl (Only X) w6).setsO (X := X) (show X = X from rfl) [.int .i64 x.kind, .int .i64 x.src, .int .i64 x.dst, .int .i64 x.prio, .int .u64 x.msg, .int .i64 x.off, .int .i64 x.len, .int .i64 x.total, .int .i64 x.num, .slice x.da x.dn x.dc, .int .i64 x.path]) OV6.out.ty (fun hh => by
      rcases F5.out X (.inr (.inr (.inl hh))) with h | h
      · exact hvX X h rfl
      · have := lXw
        omega))
    have KF := Lib.hid (K6.out.setsN (X := X) (Nat.le_of_eq HX.out) [.int .i64 x.kind, .int .i64 x.src, .int .i64 x.dst, .int .i64 x.prio, .int .u64 x.msg, .int .i64 x.off, .int .i64 x.len, .int .i64 x.total, .int .i64 x.num, .slice x.da x.dn x.dc, .int .i64 x.path])
    generalize w6.setCells X 0 [.int .i64 x.kind, .int .i64 x.src, .int .i64 x.dst, .int .i64 x.prio, .int .u64 x.msg, .int .i64 x.off, .int .i64 x.len, .int .i64 x.total, .int .i64 x.num, .slice x.da x.dn x.dc, .int .i64 x.path] = F at *
    obtain ⟨lf, cf, ff⟩ := OF.out.blk
    have cf0 : F.cell? ⟨X, 0, none⟩ = some (.int .i64 x.kind) := cf 0
    have cf1 : F.cell? ⟨X, 1, none⟩ = some (.int .i64 x.src) := cf 1
    have cf2 : F.cell? ⟨X, 2, none⟩ = some (.int .i64 x.dst) := cf 2
    have cf3 : F.cell? ⟨X, 3, none⟩ = some (.int .i64 x.prio) := cf 3
    have cf4 : F.cell? ⟨X, 4, none⟩ = some (.int .u64 x.msg) := cf 4
    have cf5 : F.cell? ⟨X, 5, none⟩ = some (.int .i64 x.off) := cf 5
    have cf6 : F.cell? ⟨X, 6, none⟩ = some (.int .i64 x.len) := cf 6
    have cf7 : F.cell? ⟨X, 7, none⟩ = some (.int .i64 x.total) := cf 7
    have cf8 : F.cell? ⟨X, 8, none⟩ = some (.int .i64 x.num) := cf 8
    have cf9 : F.cell? ⟨X, 9, none⟩ = some (.slice x.da x.dn x.dc) := cf 9
    have cf10 : F.cell? ⟨X, 10, none⟩ = some (.int .i64 x.path) := cf 10
    clear cf
    refine done (.tuple #[boxV x, .bool true]) rfl (by simp [boxV, results, Try.results11, go_sem, cf0, cf1, cf2, cf3, cf4, cf5, cf6, cf7, cf8, cf9, cf10]) (.inr ⟨i, x, r, hi, HL.out, HA.out, rfl, _, PF.out, KF.out, fun z hz => ?_⟩)
    rcases F5.out z hz with h | h
    · exact .inl h
    · exact .inr (Nat.le_trans S4.out h)
set_option maxRecDepth 100000 in
set_option maxHeartbeats 4000000 in
theorem take_q1 (b B0 : Nat) (l : Pl) (p : Pp) (now t : Int) (w : World) (h : Po b B0 l p w) (hC : 0 < p.C.length) (hd : p.pc.due t = false) (ht : max p.now now = t) (hu : ∀ i x r, i < 8 → p.L i = x :: r → x.sz ≤ p.u) (hu2 : p.u ≤ 1099511627776) : Calls Try.prog 11 #[.pointer (some ⟨b, 0, none⟩), .int .i64 now] w (TakeQ b B0 l { p with now := t, pc := p.pc.go t } w) := by
  have HD := Lib.hid hd
  clear hd
  have HP := Lib.hid h
  have HT := Lib.hid ht
  have HU := Lib.hid hu
  clear h ht hu
  go_enter Try.func11, Try.ntmps11
  go_upto_region 1 with fail
  have OV := Lib.hid (Ob.new w #[.int .i64 0, .int .i64 0, .int .i64 0, .int .i64 0, .int .u64 0, .int .i64 0, .int .i64 0, .int .i64 0, .int .i64 0, .slice none 0 0, .int .i64 0] TIt)
  have HB := Lib.hid ((Below.refl w.heap.size w).alloc (Nat.le_refl _) (.cells #[.int .i64 0, .int .i64 0, .int .i64 0, .int .i64 0, .int .u64 0, .int .i64 0, .int .i64 0, .int .i64 0, .int .i64 0, .slice none 0 0, .int .i64 0] TIt))
  have P1 := Lib.hid (HP.out.below HB.out)
  generalize w.alloc (.cells #[.int .i64 0, .int .i64 0, .int .i64 0, .int .i64 0, .int .u64 0, .int .i64 0, .int .i64 0, .int .i64 0, .int .i64 0, .slice none 0 0, .int .i64 0] TIt) = w1 at *
  obtain ⟨X, HX⟩ : ∃ X, Hid (w.heap.size = X) := ⟨_, Lib.hid rfl⟩
  rw [HX.out] at OV ⊢
  obtain ⟨a, c, hv, _, _⟩ := P1.out.form
  have cells := (P1.out.ob.blk).2.1
  have fb := (P1.out.ob.blk).2.2
  have lb := P1.out.ob.lt
  have cb0 : w1.cell? ⟨b, 0, none⟩ = some (.pointer (some ⟨l.q, 0, none⟩)) := cells 0
  have cb4 : w1.cell? ⟨b, 4, none⟩ = some (.int .i64 p.now) := cells 4
  have HV := Lib.hid hv
  clear cells hv
  go_upto_region 4 with fail
  rw [HT.out]
  have K2 : Hid (Kept (Only b) w1 (w1.setCell ⟨b, 4, none⟩ (.int .i64 t))) := Lib.hid (Kept.refl _ _).setO
  have P2 := Lib.hid (P1.out.onlyB K2.out (p' := { p with now := t }) (Ob.set P1.out.ob 4 _) rfl rfl rfl rfl rfl)
  have OV2 := Lib.hid (OV.out.other ⟨b, 4, none⟩ (.int .i64 t) (fun hh => absurd (Ty.one (hh ▸ OV.out.ty) P1.out.ob.ty) (by decide)))
  clear lb fb cb0 cb4
  generalize w1.setCell ⟨b, 4, none⟩ (.int .i64 t) = w2 at *
  have cells := (P2.out.ob.blk).2.1
  have fb := (P2.out.ob.blk).2.2
  have lb := P2.out.ob.lt
  have cb1 : w2.cell? ⟨b, 1, none⟩ = some (.slice a p.C.length c) := (cells 1).trans (congrArg some HV.out)
  have cb4 : w2.cell? ⟨b, 4, none⟩ = some (.int .i64 t) := cells 4
  have cb5 : w2.cell? ⟨b, 5, none⟩ = some (.pointer (some ⟨l.pb, 0, none⟩)) := cells 5
  clear cells
  have lX := OV2.out.lt
  have hbM : ¬ Only l.pb b := fun hh => absurd ((show Ty w2 b TPt from P2.out.ob.ty).one (by rw [show b = l.pb from hh]; exact Ob.ty P2.out.pc)) (by decide)
  have hXM : ¬ Only l.pb X := fun hh => absurd ((show Ty w2 X TIt from OV2.out.ty).one (by rw [show X = l.pb from hh]; exact Ob.ty P2.out.pc)) (by decide)
  refine wp_run (M := (Only l.pb)) (stages [([true, true, true, true, true, true, true, true, true, true, true, true, true, true, true, false, false], 15)] [false, false, false, false, false, false, false, false, false, false, false, false, false, false, false, false, true]) (by kernel_rfl) (by kernel_rfl) ?_
  refine run_stage rfl ?_
  simp only [pickAt]
  repeat (go_big_quiet_step (fail))
  refine wpQuiet_nil ?_
  refine run_want rfl ?_
  intro A hA
  go_simp
  refine (pgo_any l.pb p.pc t _ (Ob.kept P2.out.pc (Kept.drew (fun _ => False) w2) (fun h => h)) P2.out.pok).mono ?_
  rintro e w4 ⟨rfl, hp4, hk4⟩
  have KP := Lib.hid ((Kept.drew (Only l.pb) w2).trans hk4)
  have P4 := Lib.hid (P2.out.onlyP KP.out hp4 (Pc.go_ok P2.out.pok t))
  have OV4 := Lib.hid (OV2.out.kept KP.out hXM)
  have K4 : Hid (Kept (PM b l) w w4) := Lib.hid (((Kept.of_below HB.out).trans (K2.out.mono fun y _ hy => .inl hy)).trans (KP.out.mono fun y _ hy => .inr (.inl hy)))
  rw [HD.out]
  refine hA _ _ (hk4) ?_
  try simp only [Act.put, List.setIfInBounds_toArray, List.set_cons_zero, List.set_cons_succ]
  clear A hA
  refine run_last ?_
  simp only [pickAt]
  repeat (go_big_quiet_step (fail))
  refine wpQuiet_nil ?_
  clear hp4 hk4 lb fb cb1 cb4 cb5 lX
  have lXw := OV4.out.lt
  have hvX : ∀ y, PM b l y → y ≠ X := fun y hy hh => by
    subst hh
    obtain ⟨T, ⟨cs, hT⟩, _⟩ := HP.out.ty hy
    have := heap_lt hT
    have := HX.out
    omega
  have hqX : ¬ QM l.q l.V X := fun hh => hvX X (.inr (.inr (.inr hh))) rfl
  have cells := (P4.out.ob.blk).2.1
  have lb := P4.out.ob.lt
  have cb0 : w4.cell? ⟨b, 0, none⟩ = some (.pointer (some ⟨l.q, 0, none⟩)) := cells 0
  clear cells
  go_wp2_with fail
  refine (pop_any l.q B0 l.V p.room p.u p.L w4 P4.out.qu HU.out hu2).mono ?_
  intro e w5 hpop
  rcases hpop with ⟨rfl, hnone, hb5⟩ | ⟨i, x, r, V', hi, hL, hab, rfl, hq5, hk5, hf5⟩
  · have P5 := Lib.hid (P4.out.below hb5)
    have OV5 := Lib.hid (OV4.out.below hb5)
    have K5 := Lib.hid (K4.out.trans (Kept.of_below hb5))
    have HN := Lib.hid hnone
    clear hb5 hnone lb cb0
    unfold noBox
    go_upto_region 9 with fail
    have OI : Hid (Ob (w5.alloc (.cells #[.int .i64 0, .int .i64 0, .int .i64 0, .int .i64 0, .int .u64 0, .int .i64 0, .int .i64 0, .int .i64 0, .int .i64 0, .slice none 0 0, .int .i64 0] TIt)) w5.heap.size #[.int .i64 0, .int .i64 0, .int .i64 0, .int .i64 0, .int .u64 0, .int .i64 0, .int .i64 0, .int .i64 0, .int .i64 0, .slice none 0 0, .int .i64 0] TIt) := Lib.hid (Ob.new _ _ _)
    have P6 := Lib.hid (P5.out.keptF ((Kept.refl _ _).alloc (.cells #[.int .i64 0, .int .i64 0, .int .i64 0, .int .i64 0, .int .u64 0, .int .i64 0, .int .i64 0, .int .i64 0, .int .i64 0, .slice none 0 0, .int .i64 0] TIt)))
    have OV6 := Lib.hid (OV5.out.alloc (.cells #[.int .i64 0, .int .i64 0, .int .i64 0, .int .i64 0, .int .u64 0, .int .i64 0, .int .i64 0, .int .i64 0, .int .i64 0, .slice none 0 0, .int .i64 0] TIt))
    have K6 := Lib.hid (K5.out.alloc (.cells #[.int .i64 0, .int .i64 0, .int .i64 0, .int .i64 0, .int .u64 0, .int .i64 0, .int .i64 0, .int .i64 0, .int .i64 0, .slice none 0 0, .int .i64 0] TIt))
    obtain ⟨Z, HZ⟩ : ∃ Z, Hid (w5.heap.size = Z) := ⟨_, Lib.hid rfl⟩
    rw [HZ.out] at OI ⊢
    generalize w5.alloc (.cells #[.int .i64 0, .int .i64 0, .int .i64 0, .int .i64 0, .int .u64 0, .int .i64 0, .int .i64 0, .int .i64 0, .int .i64 0, .slice none 0 0, .int .i64 0] TIt) = w6 at *
    obtain ⟨lz, cz, fz⟩ := OI.out.blk
    have cz0 : w6.cell? ⟨Z, 0, none⟩ = some (.int .i64 0) := cz 0
    have cz1 : w6.cell? ⟨Z, 1, none⟩ = some (.int .i64 0) := cz 1
    have cz2 : w6.cell? ⟨Z, 2, none⟩ = some (.int .i64 0) := cz 2
    have cz3 : w6.cell? ⟨Z, 3, none⟩ = some (.int .i64 0) := cz 3
    have cz4 : w6.cell? ⟨Z, 4, none⟩ = some (.int .u64 0) := cz 4
    have cz5 : w6.cell? ⟨Z, 5, none⟩ = some (.int .i64 0) := cz 5
    have cz6 : w6.cell? ⟨Z, 6, none⟩ = some (.int .i64 0) := cz 6
    have cz7 : w6.cell? ⟨Z, 7, none⟩ = some (.int .i64 0) := cz 7
    have cz8 : w6.cell? ⟨Z, 8, none⟩ = some (.int .i64 0) := cz 8
    have cz9 : w6.cell? ⟨Z, 9, none⟩ = some (.slice none 0 0) := cz 9
    have cz10 : w6.cell? ⟨Z, 10, none⟩ = some (.int .i64 0) := cz 10
    clear cz
    obtain ⟨lx, cx, fx⟩ := OV6.out.blk
    have cx0 : w6.cell? ⟨X, 0, none⟩ = some (.int .i64 0) := cx 0
    have cx1 : w6.cell? ⟨X, 1, none⟩ = some (.int .i64 0) := cx 1
    have cx2 : w6.cell? ⟨X, 2, none⟩ = some (.int .i64 0) := cx 2
    have cx3 : w6.cell? ⟨X, 3, none⟩ = some (.int .i64 0) := cx 3
    have cx4 : w6.cell? ⟨X, 4, none⟩ = some (.int .u64 0) := cx 4
    have cx5 : w6.cell? ⟨X, 5, none⟩ = some (.int .i64 0) := cx 5
    have cx6 : w6.cell? ⟨X, 6, none⟩ = some (.int .i64 0) := cx 6
    have cx7 : w6.cell? ⟨X, 7, none⟩ = some (.int .i64 0) := cx 7
    have cx8 : w6.cell? ⟨X, 8, none⟩ = some (.int .i64 0) := cx 8
    have cx9 : w6.cell? ⟨X, 9, none⟩ = some (.slice none 0 0) := cx 9
    have cx10 : w6.cell? ⟨X, 10, none⟩ = some (.int .i64 0) := cx 10
    clear cx
    go_wp2_with fail
    have hw : (((((((((((w6.setCell ⟨X, 0, none⟩ (.int .i64 0)).setCell ⟨X, 1, none⟩ (.int .i64 0)).setCell ⟨X, 2, none⟩ (.int .i64 0)).setCell ⟨X, 3, none⟩ (.int .i64 0)).setCell ⟨X, 4, none⟩ (.int .u64 0)).setCell ⟨X, 5, none⟩ (.int .i64 0)).setCell ⟨X, 6, none⟩ (.int .i64 0)).setCell ⟨X, 7, none⟩ (.int .i64 0)).setCell ⟨X, 8, none⟩ (.int .i64 0)).setCell ⟨X, 9, none⟩ (.slice none 0 0)).setCell ⟨X, 10, none⟩ (.int .i64 0)) = w6.setCells X 0 [.int .i64 0, .int .i64 0, .int .i64 0, .int .i64 0, .int .u64 0, .int .i64 0, .int .i64 0, .int .i64 0, .int .i64 0, .slice none 0 0, .int .i64 0] := rfl
    rw [hw]
    clear hw cx0 cx1 cx2 cx3 cx4 cx5 cx6 cx7 cx8 cx9 cx10 cz0 cz1 cz2 cz3 cz4 cz5 cz6 cz7 cz8 cz9 cz10 lz fz lx fx
    have OF := Lib.hid (OV6.out.sets [.int .i64 0, .int .i64 0, .int .i64 0, .int .i64 0, .int .u64 0, .int .i64 0, .int .i64 0, .int .i64 0, .int .i64 0, .slice none 0 0, .int .i64 0] rfl)
    have PF := Lib.hid (P6.out.local ((Kept.refl (Only X) w6).setsO (X := X) (show X = X from rfl) [.int .i64 0, .int .i64 0, .int .i64 0, .int .i64 0, .int .u64 0, .int .i64 0, .int .i64 0, .int .i64 0, .int .i64 0, .slice none 0 0, .int .i64 0]) OV6.out.ty (fun hh => hvX X (.inr (.inr (.inl hh))) rfl))
    have KF := Lib.hid (K6.out.setsN (X := X) (Nat.le_of_eq HX.out) [.int .i64 0, .int .i64 0, .int .i64 0, .int .i64 0, .int .u64 0, .int .i64 0, .int .i64 0, .int .i64 0, .int .i64 0, .slice none 0 0, .int .i64 0])
    generalize w6.setCells X 0 [.int .i64 0, .int .i64 0, .int .i64 0, .int .i64 0, .int .u64 0, .int .i64 0, .int .i64 0, .int .i64 0, .int .i64 0, .slice none 0 0, .int .i64 0] = F at *
    obtain ⟨lf, cf, ff⟩ := OF.out.blk
    have cf0 : F.cell? ⟨X, 0, none⟩ = some (.int .i64 0) := cf 0
    have cf1 : F.cell? ⟨X, 1, none⟩ = some (.int .i64 0) := cf 1
    have cf2 : F.cell? ⟨X, 2, none⟩ = some (.int .i64 0) := cf 2
    have cf3 : F.cell? ⟨X, 3, none⟩ = some (.int .i64 0) := cf 3
    have cf4 : F.cell? ⟨X, 4, none⟩ = some (.int .u64 0) := cf 4
    have cf5 : F.cell? ⟨X, 5, none⟩ = some (.int .i64 0) := cf 5
    have cf6 : F.cell? ⟨X, 6, none⟩ = some (.int .i64 0) := cf 6
    have cf7 : F.cell? ⟨X, 7, none⟩ = some (.int .i64 0) := cf 7
    have cf8 : F.cell? ⟨X, 8, none⟩ = some (.int .i64 0) := cf 8
    have cf9 : F.cell? ⟨X, 9, none⟩ = some (.slice none 0 0) := cf 9
    have cf10 : F.cell? ⟨X, 10, none⟩ = some (.int .i64 0) := cf 10
    clear cf
    exact done (.tuple #[noBox, .bool false]) rfl (by simp [noBox, results, Try.results11, go_sem, cf0, cf1, cf2, cf3, cf4, cf5, cf6, cf7, cf8, cf9, cf10]) (.inl ⟨rfl, HN.out, _, PF.out, KF.out, fun z hz => .inl hz⟩)
  · have Q5 := Lib.hid (P4.out.queue (L' := upd p.L i r) (u' := p.u - x.sz) hk5 hq5 hf5 (fun z j hj hz => .inl (.inr ⟨j, hj, by
      by_cases hji : j = i
      · subst hji
        rw [upd_same] at hz
        show z ∈ p.L j
        rw [hL]
        exact List.mem_cons_of_mem _ hz
      · rw [upd_other _ _ hji] at hz
        exact hz⟩)))
    have OV5 := Lib.hid (OV4.out.kept hk5 hqX)
    have HL := Lib.hid hL
    have HA := Lib.hid hab
    clear hk5 hq5 hf5 hL hab lb cb0
    obtain ⟨l5, P5', K5', F5'⟩ := Q5.out
    have P5 := Lib.hid P5'
    have F5 := Lib.hid F5'
    have K5 := Lib.hid (K4.out.trans K5')
    have S4 := Lib.hid K4.out.size
    clear P5' K5' F5'
    unfold boxV
    go_upto_region 9 with fail
    have OI : Hid (Ob (w5.alloc (.cells #[.int .i64 x.kind, .int .i64 x.src, .int .i64 x.dst, .int .i64 x.prio, .int .u64 x.msg, .int .i64 x.off, .int .i64 x.len, .int .i64 x.total, .int .i64 x.num, .slice x.da x.dn x.dc, .int .i64 x.path] TIt)) w5.heap.size #[.int .i64 x.kind, .int .i64 x.src, .int .i64 x.dst, .int .i64 x.prio, .int .u64 x.msg, .int .i64 x.off, .int .i64 x.len, .int .i64 x.total, .int .i64 x.num, .slice x.da x.dn x.dc, .int .i64 x.path] TIt) := Lib.hid (Ob.new _ _ _)
    have P6 := Lib.hid (P5.out.keptF ((Kept.refl _ _).alloc (.cells #[.int .i64 x.kind, .int .i64 x.src, .int .i64 x.dst, .int .i64 x.prio, .int .u64 x.msg, .int .i64 x.off, .int .i64 x.len, .int .i64 x.total, .int .i64 x.num, .slice x.da x.dn x.dc, .int .i64 x.path] TIt)))
    have OV6 := Lib.hid (OV5.out.alloc (.cells #[.int .i64 x.kind, .int .i64 x.src, .int .i64 x.dst, .int .i64 x.prio, .int .u64 x.msg, .int .i64 x.off, .int .i64 x.len, .int .i64 x.total, .int .i64 x.num, .slice x.da x.dn x.dc, .int .i64 x.path] TIt))
    have K6 := Lib.hid (K5.out.alloc (.cells #[.int .i64 x.kind, .int .i64 x.src, .int .i64 x.dst, .int .i64 x.prio, .int .u64 x.msg, .int .i64 x.off, .int .i64 x.len, .int .i64 x.total, .int .i64 x.num, .slice x.da x.dn x.dc, .int .i64 x.path] TIt))
    obtain ⟨Z, HZ⟩ : ∃ Z, Hid (w5.heap.size = Z) := ⟨_, Lib.hid rfl⟩
    rw [HZ.out] at OI ⊢
    generalize w5.alloc (.cells #[.int .i64 x.kind, .int .i64 x.src, .int .i64 x.dst, .int .i64 x.prio, .int .u64 x.msg, .int .i64 x.off, .int .i64 x.len, .int .i64 x.total, .int .i64 x.num, .slice x.da x.dn x.dc, .int .i64 x.path] TIt) = w6 at *
    obtain ⟨lz, cz, fz⟩ := OI.out.blk
    have cz0 : w6.cell? ⟨Z, 0, none⟩ = some (.int .i64 x.kind) := cz 0
    have cz1 : w6.cell? ⟨Z, 1, none⟩ = some (.int .i64 x.src) := cz 1
    have cz2 : w6.cell? ⟨Z, 2, none⟩ = some (.int .i64 x.dst) := cz 2
    have cz3 : w6.cell? ⟨Z, 3, none⟩ = some (.int .i64 x.prio) := cz 3
    have cz4 : w6.cell? ⟨Z, 4, none⟩ = some (.int .u64 x.msg) := cz 4
    have cz5 : w6.cell? ⟨Z, 5, none⟩ = some (.int .i64 x.off) := cz 5
    have cz6 : w6.cell? ⟨Z, 6, none⟩ = some (.int .i64 x.len) := cz 6
    have cz7 : w6.cell? ⟨Z, 7, none⟩ = some (.int .i64 x.total) := cz 7
    have cz8 : w6.cell? ⟨Z, 8, none⟩ = some (.int .i64 x.num) := cz 8
    have cz9 : w6.cell? ⟨Z, 9, none⟩ = some (.slice x.da x.dn x.dc) := cz 9
    have cz10 : w6.cell? ⟨Z, 10, none⟩ = some (.int .i64 x.path) := cz 10
    clear cz
    obtain ⟨lx, cx, fx⟩ := OV6.out.blk
    have cx0 : w6.cell? ⟨X, 0, none⟩ = some (.int .i64 0) := cx 0
    have cx1 : w6.cell? ⟨X, 1, none⟩ = some (.int .i64 0) := cx 1
    have cx2 : w6.cell? ⟨X, 2, none⟩ = some (.int .i64 0) := cx 2
    have cx3 : w6.cell? ⟨X, 3, none⟩ = some (.int .i64 0) := cx 3
    have cx4 : w6.cell? ⟨X, 4, none⟩ = some (.int .u64 0) := cx 4
    have cx5 : w6.cell? ⟨X, 5, none⟩ = some (.int .i64 0) := cx 5
    have cx6 : w6.cell? ⟨X, 6, none⟩ = some (.int .i64 0) := cx 6
    have cx7 : w6.cell? ⟨X, 7, none⟩ = some (.int .i64 0) := cx 7
    have cx8 : w6.cell? ⟨X, 8, none⟩ = some (.int .i64 0) := cx 8
    have cx9 : w6.cell? ⟨X, 9, none⟩ = some (.slice none 0 0) := cx 9
    have cx10 : w6.cell? ⟨X, 10, none⟩ = some (.int .i64 0) := cx 10
    clear cx
    go_wp2_with fail
    have hw : (((((((((((w6.setCell ⟨X, 0, none⟩ (.int .i64 x.kind)).setCell ⟨X, 1, none⟩ (.int .i64 x.src)).setCell ⟨X, 2, none⟩ (.int .i64 x.dst)).setCell ⟨X, 3, none⟩ (.int .i64 x.prio)).setCell ⟨X, 4, none⟩ (.int .u64 x.msg)).setCell ⟨X, 5, none⟩ (.int .i64 x.off)).setCell ⟨X, 6, none⟩ (.int .i64 x.len)).setCell ⟨X, 7, none⟩ (.int .i64 x.total)).setCell ⟨X, 8, none⟩ (.int .i64 x.num)).setCell ⟨X, 9, none⟩ (.slice x.da x.dn x.dc)).setCell ⟨X, 10, none⟩ (.int .i64 x.path)) = w6.setCells X 0 [.int .i64 x.kind, .int .i64 x.src, .int .i64 x.dst, .int .i64 x.prio, .int .u64 x.msg, .int .i64 x.off, .int .i64 x.len, .int .i64 x.total, .int .i64 x.num, .slice x.da x.dn x.dc, .int .i64 x.path] := rfl
    rw [hw]
    clear hw cx0 cx1 cx2 cx3 cx4 cx5 cx6 cx7 cx8 cx9 cx10 cz0 cz1 cz2 cz3 cz4 cz5 cz6 cz7 cz8 cz9 cz10 lz fz lx fx
    have OF := Lib.hid (OV6.out.sets [.int .i64 x.kind, .int .i64 x.src, .int .i64 x.dst, .int .i64 x.prio, .int .u64 x.msg, .int .i64 x.off, .int .i64 x.len, .int .i64 x.total, .int .i64 x.num, .slice x.da x.dn x.dc, .int .i64 x.path] rfl)
    have PF := Lib.hid (P6.out.local ((Kept.refl (Only X) w6).setsO (X := X) (show X = X from rfl) [.int .i64 x.kind, .int .i64 x.src, .int .i64 x.dst, .int .i64 x.prio, .int .u64 x.msg, .int .i64 x.off, .int .i64 x.len, .int .i64 x.total, .int .i64 x.num, .slice x.da x.dn x.dc, .int .i64 x.path]) OV6.out.ty (fun hh => by
      rcases F5.out X (.inr (.inr (.inl hh))) with h | h
      · exact hvX X h rfl
      · have := lXw
        omega))
    have KF := Lib.hid (K6.out.setsN (X := X) (Nat.le_of_eq HX.out) [.int .i64 x.kind, .int .i64 x.src, .int .i64 x.dst, .int .i64 x.prio, .int .u64 x.msg, .int .i64 x.off, .int .i64 x.len, .int .i64 x.total, .int .i64 x.num, .slice x.da x.dn x.dc, .int .i64 x.path])
    generalize w6.setCells X 0 [.int .i64 x.kind, .int .i64 x.src, .int .i64 x.dst, .int .i64 x.prio, .int .u64 x.msg, .int .i64 x.off, .int .i64 x.len, .int .i64 x.total, .int .i64 x.num, .slice x.da x.dn x.dc, .int .i64 x.path] = F at *
    obtain ⟨lf, cf, ff⟩ := OF.out.blk
    have cf0 : F.cell? ⟨X, 0, none⟩ = some (.int .i64 x.kind) := cf 0
    have cf1 : F.cell? ⟨X, 1, none⟩ = some (.int .i64 x.src) := cf 1
    have cf2 : F.cell? ⟨X, 2, none⟩ = some (.int .i64 x.dst) := cf 2
    have cf3 : F.cell? ⟨X, 3, none⟩ = some (.int .i64 x.prio) := cf 3
    have cf4 : F.cell? ⟨X, 4, none⟩ = some (.int .u64 x.msg) := cf 4
    have cf5 : F.cell? ⟨X, 5, none⟩ = some (.int .i64 x.off) := cf 5
    have cf6 : F.cell? ⟨X, 6, none⟩ = some (.int .i64 x.len) := cf 6
    have cf7 : F.cell? ⟨X, 7, none⟩ = some (.int .i64 x.total) := cf 7
    have cf8 : F.cell? ⟨X, 8, none⟩ = some (.int .i64 x.num) := cf 8
    have cf9 : F.cell? ⟨X, 9, none⟩ = some (.slice x.da x.dn x.dc) := cf 9
    have cf10 : F.cell? ⟨X, 10, none⟩ = some (.int .i64 x.path) := cf 10
    clear cf
    refine done (.tuple #[boxV x, .bool true]) rfl (by simp [boxV, results, Try.results11, go_sem, cf0, cf1, cf2, cf3, cf4, cf5, cf6, cf7, cf8, cf9, cf10]) (.inr ⟨i, x, r, hi, HL.out, HA.out, rfl, _, PF.out, KF.out, fun z hz => ?_⟩)
    rcases F5.out z hz with h | h
    · exact .inl h
    · exact .inr (Nat.le_trans S4.out h)
end Go.Proofs.Ythgkminjhpaakaa
