/- A port (chapter 13): a credit taken. -/
import Derived.Test.YthgkminjhpaakaaPoC
namespace Go.Proofs.Ythgkminjhpaakaa
open Go.RowKit

/-- a cell of the port's own block is another -/
theorem Po.onlyB {b B0 : Nat} {l : Pl} {p : Pp} {w w' : World} (h : Po b B0 l p w) (hk : Kept (Only b) w w') {p' : Pp} (ho : Ob w' b (ptcells l p') TPt) (h1 : p'.C = p.C) (h2 : p'.pc = p.pc) (h3 : p'.room = p.room) (h4 : p'.u = p.u) (h5 : p'.L = p.L) : Po b B0 l p' w' := by
  have hn : ∀ {g T}, Ty w g T → T ≠ TPt → ¬ Only b g := fun hT hne hh => by
    have : _ = b := hh
    subst this
    exact hne (hT.one h.ob.ty)
  refine ⟨ho, ?_, ?_, ?_, h.base, h.pbase, h2 ▸ h.pok, fun x hx => ?_⟩
  · rw [h1]
    exact own_kept h.own hk fun g hg => hn (own_ty h.own hg) (by decide)
  · rw [h2]
    exact Ob.kept h.pc hk (hn (Ob.ty h.pc) (by decide))
  · rw [h3, h4, h5]
    exact h.qu.kept hk fun g hg => by
      rcases h.qu.ty hg with h2 | h2
      · exact hn h2 (by decide)
      · exact hn h2 (by decide)
  · have hx' : p.has x := by
      unfold Pp.has at *
      rw [h1, h5] at hx
      exact hx
    exact (h.data x hx').keptT hk fun g hg _ => ⟨TPt, by rw [show g = b from hg]; exact h.ob.ty, by decide⟩
theorem Po.onlyP {b B0 : Nat} {l : Pl} {p : Pp} {w w' : World} (h : Po b B0 l p w) (hk : Kept (Only l.pb) w w') {s : Pc} (hp : PcI l.pb s w') (hs : s.ok) : Po b B0 l { p with pc := s } w' := by
  have hn : ∀ {g T}, Ty w g T → T ≠ 95 → ¬ Only l.pb g := fun hT hne hh => by
    have : _ = l.pb := hh
    subst this
    exact hne (hT.one (Ob.ty h.pc))
  refine ⟨h.ob.kept hk (hn h.ob.ty (by decide)), own_kept h.own hk fun g hg => hn (own_ty h.own hg) (by decide), hp, h.qu.kept hk fun g hg => ?_, h.base, h.pbase, hs, fun x hx => ?_⟩
  · rcases h.qu.ty hg with h2 | h2
    · exact hn h2 (by decide)
    · exact hn h2 (by decide)
  · exact (h.data x hx).keptT hk fun g hg _ => ⟨95, by rw [show g = l.pb from hg]; exact Ob.ty h.pc, by decide⟩
theorem getElem?_app {α : Type} {l1 l2 : List α} {j : Nat} {u : α} (h : l1[j]? = some u) : (l1 ++ l2)[j]? = some u := by
  obtain ⟨h1, h2⟩ := List.getElem?_eq_some_iff.1 h
  rw [List.getElem?_append_left h1]
  exact h
theorem one_itrows (l : List It) : ∀ u ∈ l.flatMap It.row, u.oneCell' = true := by
  intro u hu
  rw [List.mem_flatMap] at hu
  obtain ⟨x, _, hx⟩ := hu
  simp only [It.row, List.mem_cons, List.not_mem_nil, or_false] at hx
  rcases hx with rfl | rfl | rfl | rfl | rfl | rfl | rfl | rfl | rfl | rfl | rfl <;> rfl
/-- an item of the call's own is written -/
theorem Po.local {b B0 X : Nat} {l : Pl} {p : Pp} {w w' : World} (h : Po b B0 l p w) (hk : Kept (Only X) w w') (hX : Ty w X TIt) (hv : l.v.ownBlock ≠ some X) : Po b B0 l p w' := by
  refine h.kept hk (fun y hy hh => ?_) fun g hg _ => ⟨TIt, by rw [show g = X from hg]; exact hX, by decide⟩
  have : y = X := hh
  subst this
  rcases hy with hy | hy | hy | hy
  · exact absurd (hX.one (by rw [hy]; exact h.ob.ty)) (by decide)
  · exact absurd (hX.one (by rw [hy]; exact Ob.ty h.pc)) (by decide)
  · exact hv hy
  · rcases h.qu.ty hy with h2 | h2
    · exact absurd (hX.one h2) (by decide)
    · exact absurd (hX.one h2) (by decide)
def TakeC (b B0 : Nat) (l : Pl) (p' : Pp) (x : It) (w : World) (e : Ending) (w' : World) : Prop := e = .returned (.tuple #[boxV x, .bool true]) ∧ PoPost b B0 l p' w w'
set_option maxRecDepth 100000 in
set_option maxHeartbeats 4000000 in
theorem take_cred (b B0 : Nat) (l : Pl) (p : Pp) (x : It) (r : List It) (now t : Int) (w : World) (h : Po b B0 l p w) (hC : p.C = x :: r) (ht : max p.now now = t) (hd : p.pc.due t = true) (hl : p.C.length ≤ 1000000) : Calls Try.prog 11 #[.pointer (some ⟨b, 0, none⟩), .int .i64 now] w (TakeC b B0 l { p with now := t, pc := p.pc.go t, C := r } x w) := by
  have HP := Lib.hid h
  have HC := Lib.hid hC
  have HD := Lib.hid hd
  have HT := Lib.hid ht
  clear h hC hd ht
  go_enter Try.func11, Try.ntmps11
  go_upto_region 1 with fail
  have OV := Lib.hid (Ob.new w #[.int .i64 0, .int .i64 0, .int .i64 0, .int .i64 0, .int .u64 0, .int .i64 0, .int .i64 0, .int .i64 0, .int .i64 0, .slice none 0 0, .int .i64 0] TIt)
  have HB := Lib.hid ((Below.refl w.heap.size w).alloc (Nat.le_refl _) (.cells #[.int .i64 0, .int .i64 0, .int .i64 0, .int .i64 0, .int .u64 0, .int .i64 0, .int .i64 0, .int .i64 0, .int .i64 0, .slice none 0 0, .int .i64 0] TIt))
  have P1 := Lib.hid (HP.out.below HB.out)
  generalize w.alloc (.cells #[.int .i64 0, .int .i64 0, .int .i64 0, .int .i64 0, .int .u64 0, .int .i64 0, .int .i64 0, .int .i64 0, .int .i64 0, .slice none 0 0, .int .i64 0] TIt) = w1 at *
  obtain ⟨X, HX⟩ : ∃ X, Hid (w.heap.size = X) := ⟨_, Lib.hid rfl⟩
  rw [HX.out] at OV ⊢
  obtain ⟨a, c, hv, _, _⟩ := P1.out.form
  have cells := (P1.out.ob.blk).2.1
  have fb := (P1.out.ob.blk).2.2
  have lb := P1.out.ob.lt
  have cb0 : w1.cell? ⟨b, 0, none⟩ = some (.pointer (some ⟨l.q, 0, none⟩)) := cells 0
  have cb4 : w1.cell? ⟨b, 4, none⟩ = some (.int .i64 p.now) := cells 4
  have HV := Lib.hid hv
  clear cells hv
  go_upto_region 4 with fail
  rw [HT.out]
  have K2 : Hid (Kept (Only b) w1 (w1.setCell ⟨b, 4, none⟩ (.int .i64 t))) := Lib.hid (Kept.refl _ _).setO
  have P2 := Lib.hid (P1.out.onlyB K2.out (p' := { p with now := t }) (Ob.set P1.out.ob 4 _) rfl rfl rfl rfl rfl)
  have OV2 := Lib.hid (OV.out.other ⟨b, 4, none⟩ (.int .i64 t) (fun hh => absurd (Ty.one (hh ▸ OV.out.ty) P1.out.ob.ty) (by decide)))
  clear lb fb cb0 cb4
  generalize w1.setCell ⟨b, 4, none⟩ (.int .i64 t) = w2 at *
  have cells := (P2.out.ob.blk).2.1
  have fb := (P2.out.ob.blk).2.2
  have lb := P2.out.ob.lt
  have cb1 : w2.cell? ⟨b, 1, none⟩ = some (.slice a p.C.length c) := (cells 1).trans (congrArg some HV.out)
  have cb4 : w2.cell? ⟨b, 4, none⟩ = some (.int .i64 t) := cells 4
  have cb5 : w2.cell? ⟨b, 5, none⟩ = some (.pointer (some ⟨l.pb, 0, none⟩)) := cells 5
  clear cells
  have h0 : 0 < p.C.length := by rw [HC.out]; simp
  have hbM : ¬ Only l.pb b := fun hh => absurd ((show Ty w2 b TPt from P2.out.ob.ty).one (by rw [show b = l.pb from hh]; exact Ob.ty P2.out.pc)) (by decide)
  have hXM : ¬ Only l.pb X := fun hh => absurd ((show Ty w2 X TIt from OV2.out.ty).one (by rw [show X = l.pb from hh]; exact Ob.ty P2.out.pc)) (by decide)
  have lX := OV2.out.lt
  refine wp_run (M := (Only l.pb)) (stages [([true, true, true, true, true, true, true, true, true, true, true, true, true, true, true, false, false], 15)] [false, false, false, false, false, false, false, false, false, false, false, false, false, false, false, false, true]) (by kernel_rfl) (by kernel_rfl) ?_
  refine run_stage rfl ?_
  simp only [pickAt]
  repeat (go_big_quiet_step (fail))
  refine wpQuiet_nil ?_
  refine run_want rfl ?_
  intro A hA
  go_simp
  refine (pgo_any l.pb p.pc t _ (Ob.kept P2.out.pc (Kept.drew (fun _ => False) w2) (fun h => h)) P2.out.pok).mono ?_
  rintro e w4 ⟨rfl, hp4, hk4⟩
  have K4 := Lib.hid ((Kept.drew (Only l.pb) w2).trans hk4)
  have P4 := Lib.hid (P2.out.onlyP K4.out hp4 (Pc.go_ok P2.out.pok t))
  have OV4 := Lib.hid (OV2.out.kept K4.out hXM)
  rw [HD.out]
  refine hA _ _ (hk4) ?_
  try simp only [Act.put, List.setIfInBounds_toArray, List.set_cons_zero, List.set_cons_succ]
  clear A hA
  refine run_last ?_
  simp only [pickAt]
  repeat (go_big_quiet_step (fail))
  refine wpQuiet_nil ?_
  clear hp4 hk4 lb fb cb1 cb4 cb5
  have hown := P4.out.own
  obtain ⟨g, c', hv', hBg, _, _, hgw, hgc, _⟩ := own_some hown (by omega)
  rw [HV.out] at hv' hown
  cases hv'
  obtain ⟨_, _, _, hxl, cs, hrw, hcl, hct⟩ := own_row hown
  have cells := (P4.out.ob.blk).2.1
  have fb := (P4.out.ob.blk).2.2
  have lb := P4.out.ob.lt
  have cb1 : w4.cell? ⟨b, 1, none⟩ = some (.slice (some ⟨g, 0, none⟩) p.C.length c) := (cells 1).trans (congrArg some HV.out)
  clear cells
  have g0 : ∀ j u, (x.row)[j]? = some u → w4.cell? ⟨g, j, none⟩ = some u := fun j u hj => hgc j u (by
    rw [HC.out, List.flatMap_cons]
    exact getElem?_app hj)
  have cg0 := g0 0 _ rfl
  have cg1 := g0 1 _ rfl
  have cg2 := g0 2 _ rfl
  have cg3 := g0 3 _ rfl
  have cg4 := g0 4 _ rfl
  have cg5 := g0 5 _ rfl
  have cg6 := g0 6 _ rfl
  have cg7 := g0 7 _ rfl
  have cg8 := g0 8 _ rfl
  have cg9 := g0 9 _ rfl
  have cg10 := g0 10 _ rfl
  have HRW := Lib.hid hrw
  have HCL := Lib.hid hcl
  have HCT := Lib.hid hct
  have HXL := Lib.hid hxl
  clear g0 hgc hrw hcl hct hxl hown
  go_upto_region 6 with fail
  have OI : Hid (Ob (w4.alloc (.cells #[.int .i64 x.kind, .int .i64 x.src, .int .i64 x.dst, .int .i64 x.prio, .int .u64 x.msg, .int .i64 x.off, .int .i64 x.len, .int .i64 x.total, .int .i64 x.num, .slice x.da x.dn x.dc, .int .i64 x.path] TIt)) w4.heap.size #[.int .i64 x.kind, .int .i64 x.src, .int .i64 x.dst, .int .i64 x.prio, .int .u64 x.msg, .int .i64 x.off, .int .i64 x.len, .int .i64 x.total, .int .i64 x.num, .slice x.da x.dn x.dc, .int .i64 x.path] TIt) := Lib.hid (Ob.new _ _ _)
  have KA : Hid (Kept (fun _ => False) w4 (w4.alloc (.cells #[.int .i64 x.kind, .int .i64 x.src, .int .i64 x.dst, .int .i64 x.prio, .int .u64 x.msg, .int .i64 x.off, .int .i64 x.len, .int .i64 x.total, .int .i64 x.num, .slice x.da x.dn x.dc, .int .i64 x.path] TIt))) := Lib.hid ((Kept.refl _ _).alloc _)
  have P5 := Lib.hid (P4.out.keptF KA.out)
  have OV5 := Lib.hid (OV4.out.kept KA.out (fun h => h))
  have R5 := Lib.hid (HRW.out.kept KA.out (fun h => h))
  clear lb fb cb1 cg0 cg1 cg2 cg3 cg4 cg5 cg6 cg7 cg8 cg9 cg10
  have lX4 := OV4.out.lt
  obtain ⟨Z, HZ⟩ : ∃ Z, Hid (w4.heap.size = Z) := ⟨_, Lib.hid rfl⟩
  rw [HZ.out] at OI ⊢
  generalize w4.alloc (.cells #[.int .i64 x.kind, .int .i64 x.src, .int .i64 x.dst, .int .i64 x.prio, .int .u64 x.msg, .int .i64 x.off, .int .i64 x.len, .int .i64 x.total, .int .i64 x.num, .slice x.da x.dn x.dc, .int .i64 x.path] TIt) = w5 at *
  have cells := (P5.out.ob.blk).2.1
  have fb := (P5.out.ob.blk).2.2
  have lb := P5.out.ob.lt
  have cb1 : w5.cell? ⟨b, 1, none⟩ = some (.slice (some ⟨g, 0, none⟩) p.C.length c) := (cells 1).trans (congrArg some HV.out)
  clear cells
  have h0n : 0 ≤ p.C.length := by omega
  go_wp2_with fail
  refine (delete_it g p.C.length c 0 1 cs _ R5.out HCL.out (by omega) (by omega) (by omega) (by omega) (by rw [HCT.out]; exact one_itrows _)).mono ?_
  rintro e w6 ⟨rfl, hk6, cs', hr6, hl6, ht6⟩
  have hlr : p.C.length = r.length + 1 := by rw [HC.out]; rfl
  have hn1 : p.C.length - (1 - 0) = r.length := by rw [HC.out]; simp
  rw [hn1] at ht6 ⊢
  have hgM : ∀ y, Only g y → Lm l.v y := fun y hy => by
    have : y = g := hy
    subst this
    show l.v.ownBlock = some y
    rw [HV.out]; rfl
  have K6 : Hid (Kept (Lm l.v) w5 w6) := Lib.hid (hk6.mono fun y _ hy => hgM y hy)
  have O6 : w6.ownsRow B0 TIt 11 (.slice (some ⟨g, 0, none⟩) r.length c) r.length (r.flatMap It.row) := by
    refine row_own hBg (by omega) (by omega) hr6 (by rw [hl6]; exact HCL.out) ?_
    rw [ht6]
    have h1 : cs.take (p.C.length * 11) = (x :: r).flatMap It.row := by rw [HCT.out, HC.out]
    have h2 : (x :: r).flatMap It.row = x.row ++ r.flatMap It.row := List.flatMap_cons ..
    rw [h1, h2]
    simp [It.row]
  have R6 := Lib.hid (P5.out.cred K6.out O6 (.inl (by rw [HV.out]; rfl)) (fun z hz => .inl (by show z ∈ p.C; rw [HC.out]; exact List.mem_cons_of_mem _ hz)))
  have hgb : ¬ Only g b := fun hh => absurd ((show Ty w5 b TPt from P5.out.ob.ty).one (own_ty P5.out.own (by show l.v.ownBlock = some b; exact hgM b hh))) (by decide)
  have hgX : ¬ Only g X := fun hh => by
    have h1 := ((HP.out.own).lt g (hgM g rfl)).2
    have h2 := HX.out
    have h3 : X = g := hh
    omega
  have hgZ : ¬ Only g Z := fun hh => by
    have h2 := HZ.out
    have h3 : Z = g := hh
    omega
  have hXZ : X ≠ Z := by have h2 := HZ.out; omega
  have hXb : X ≠ b := fun hh => absurd (Ty.one (hh ▸ OV5.out.ty) P5.out.ob.ty) (by decide)
  have hZb : Z ≠ b := fun hh => absurd (Ty.one (hh ▸ OI.out.ty) P5.out.ob.ty) (by decide)
  have lb6 : b < w6.heap.size := Nat.lt_of_lt_of_le lb K6.out.size
  have fb6 : ∀ i, w6.frozen? ⟨b, i, none⟩ = false := fun i => (hk6.frozen b i lb hgb).trans (fb i)
  have cb6 : w6.cell? ⟨b, 1, none⟩ = some (.slice (some ⟨g, 0, none⟩) p.C.length c) := (hk6.cell b 1 lb hgb).trans cb1
  have OV6 := Lib.hid (OV5.out.kept hk6 hgX)
  have OI6 := Lib.hid (OI.out.kept hk6 hgZ)
  clear lb fb cb1 hk6 hr6 hl6 ht6 O6
  go_upto_region 7 with fail
  have OV7 := Lib.hid (OV6.out.other ⟨b, 1, none⟩ (.slice (some ⟨g, 0, none⟩) r.length c) hXb)
  have OI7 := Lib.hid (OI6.out.other ⟨b, 1, none⟩ (.slice (some ⟨g, 0, none⟩) r.length c) hZb)
  clear lb6 fb6 cb6
  generalize w6.setCell ⟨b, 1, none⟩ (.slice (some ⟨g, 0, none⟩) r.length c) = w7 at *
  obtain ⟨lz, cz, fz⟩ := OI7.out.blk
  have cz0 : w7.cell? ⟨Z, 0, none⟩ = some (.int .i64 x.kind) := cz 0
  have cz1 : w7.cell? ⟨Z, 1, none⟩ = some (.int .i64 x.src) := cz 1
  have cz2 : w7.cell? ⟨Z, 2, none⟩ = some (.int .i64 x.dst) := cz 2
  have cz3 : w7.cell? ⟨Z, 3, none⟩ = some (.int .i64 x.prio) := cz 3
  have cz4 : w7.cell? ⟨Z, 4, none⟩ = some (.int .u64 x.msg) := cz 4
  have cz5 : w7.cell? ⟨Z, 5, none⟩ = some (.int .i64 x.off) := cz 5
  have cz6 : w7.cell? ⟨Z, 6, none⟩ = some (.int .i64 x.len) := cz 6
  have cz7 : w7.cell? ⟨Z, 7, none⟩ = some (.int .i64 x.total) := cz 7
  have cz8 : w7.cell? ⟨Z, 8, none⟩ = some (.int .i64 x.num) := cz 8
  have cz9 : w7.cell? ⟨Z, 9, none⟩ = some (.slice x.da x.dn x.dc) := cz 9
  have cz10 : w7.cell? ⟨Z, 10, none⟩ = some (.int .i64 x.path) := cz 10
  clear cz
  obtain ⟨lx, cx, fx⟩ := OV7.out.blk
  have cx0 : w7.cell? ⟨X, 0, none⟩ = some (.int .i64 0) := cx 0
  have cx1 : w7.cell? ⟨X, 1, none⟩ = some (.int .i64 0) := cx 1
  have cx2 : w7.cell? ⟨X, 2, none⟩ = some (.int .i64 0) := cx 2
  have cx3 : w7.cell? ⟨X, 3, none⟩ = some (.int .i64 0) := cx 3
  have cx4 : w7.cell? ⟨X, 4, none⟩ = some (.int .u64 0) := cx 4
  have cx5 : w7.cell? ⟨X, 5, none⟩ = some (.int .i64 0) := cx 5
  have cx6 : w7.cell? ⟨X, 6, none⟩ = some (.int .i64 0) := cx 6
  have cx7 : w7.cell? ⟨X, 7, none⟩ = some (.int .i64 0) := cx 7
  have cx8 : w7.cell? ⟨X, 8, none⟩ = some (.int .i64 0) := cx 8
  have cx9 : w7.cell? ⟨X, 9, none⟩ = some (.slice none 0 0) := cx 9
  have cx10 : w7.cell? ⟨X, 10, none⟩ = some (.int .i64 0) := cx 10
  clear cx
  go_wp2_with fail
  have hw : (((((((((((w7.setCell ⟨X, 0, none⟩ (.int .i64 x.kind)).setCell ⟨X, 1, none⟩ (.int .i64 x.src)).setCell ⟨X, 2, none⟩ (.int .i64 x.dst)).setCell ⟨X, 3, none⟩ (.int .i64 x.prio)).setCell ⟨X, 4, none⟩ (.int .u64 x.msg)).setCell ⟨X, 5, none⟩ (.int .i64 x.off)).setCell ⟨X, 6, none⟩ (.int .i64 x.len)).setCell ⟨X, 7, none⟩ (.int .i64 x.total)).setCell ⟨X, 8, none⟩ (.int .i64 x.num)).setCell ⟨X, 9, none⟩ (.slice x.da x.dn x.dc)).setCell ⟨X, 10, none⟩ (.int .i64 x.path)) = w7.setCells X 0 [.int .i64 x.kind, .int .i64 x.src, .int .i64 x.dst, .int .i64 x.prio, .int .u64 x.msg, .int .i64 x.off, .int .i64 x.len, .int .i64 x.total, .int .i64 x.num, .slice x.da x.dn x.dc, .int .i64 x.path] := rfl
  rw [hw]
  clear hw cx0 cx1 cx2 cx3 cx4 cx5 cx6 cx7 cx8 cx9 cx10 cz0 cz1 cz2 cz3 cz4 cz5 cz6 cz7 cz8 cz9 cz10 lz fz lx fx
  have OF := Lib.hid (OV7.out.sets [.int .i64 x.kind, .int .i64 x.src, .int .i64 x.dst, .int .i64 x.prio, .int .u64 x.msg, .int .i64 x.off, .int .i64 x.len, .int .i64 x.total, .int .i64 x.num, .slice x.da x.dn x.dc, .int .i64 x.path] rfl)
  obtain ⟨r1, r2, r3⟩ := R6.out
  have KF : Hid (Kept (Only X) w7 (w7.setCells X 0 [.int .i64 x.kind, .int .i64 x.src, .int .i64 x.dst, .int .i64 x.prio, .int .u64 x.msg, .int .i64 x.off, .int .i64 x.len, .int .i64 x.total, .int .i64 x.num, .slice x.da x.dn x.dc, .int .i64 x.path])) := Lib.hid ((Kept.refl (Only X) w7).setsO (X := X) (show X = X from rfl) _)
  have PF := Lib.hid (r1.local KF.out OV7.out.ty (fun hh => hgX (show X = g from (Option.some.inj hh).symm)))
  have K07 := ((((Kept.of_below (M := PM b l) HB.out).trans (K2.out.mono fun y _ hy => .inl hy)).trans (K4.out.mono fun y _ hy => .inr (.inl hy))).trans (KA.out.mono fun y _ hy => hy.elim)).trans r2
  have hs5 : w.heap.size ≤ w5.heap.size := Nat.le_trans HB.out.size (Nat.le_trans K2.out.size (Nat.le_trans K4.out.size KA.out.size))
  have KW := Lib.hid (K07.setsN (X := X) (Nat.le_of_eq HX.out) [.int .i64 x.kind, .int .i64 x.src, .int .i64 x.dst, .int .i64 x.prio, .int .u64 x.msg, .int .i64 x.off, .int .i64 x.len, .int .i64 x.total, .int .i64 x.num, .slice x.da x.dn x.dc, .int .i64 x.path])
  clear K07 r1 r2
  generalize w7.setCells X 0 [.int .i64 x.kind, .int .i64 x.src, .int .i64 x.dst, .int .i64 x.prio, .int .u64 x.msg, .int .i64 x.off, .int .i64 x.len, .int .i64 x.total, .int .i64 x.num, .slice x.da x.dn x.dc, .int .i64 x.path] = F at *
  obtain ⟨lf, cf, ff⟩ := OF.out.blk
  have cf0 : F.cell? ⟨X, 0, none⟩ = some (.int .i64 x.kind) := cf 0
  have cf1 : F.cell? ⟨X, 1, none⟩ = some (.int .i64 x.src) := cf 1
  have cf2 : F.cell? ⟨X, 2, none⟩ = some (.int .i64 x.dst) := cf 2
  have cf3 : F.cell? ⟨X, 3, none⟩ = some (.int .i64 x.prio) := cf 3
  have cf4 : F.cell? ⟨X, 4, none⟩ = some (.int .u64 x.msg) := cf 4
  have cf5 : F.cell? ⟨X, 5, none⟩ = some (.int .i64 x.off) := cf 5
  have cf6 : F.cell? ⟨X, 6, none⟩ = some (.int .i64 x.len) := cf 6
  have cf7 : F.cell? ⟨X, 7, none⟩ = some (.int .i64 x.total) := cf 7
  have cf8 : F.cell? ⟨X, 8, none⟩ = some (.int .i64 x.num) := cf 8
  have cf9 : F.cell? ⟨X, 9, none⟩ = some (.slice x.da x.dn x.dc) := cf 9
  have cf10 : F.cell? ⟨X, 10, none⟩ = some (.int .i64 x.path) := cf 10
  clear cf
  refine done (.tuple #[boxV x, .bool true]) rfl (by simp [boxV, results, Try.results11, go_sem, cf0, cf1, cf2, cf3, cf4, cf5, cf6, cf7, cf8, cf9, cf10]) ⟨rfl, _, PF.out, KW.out, fun z hz => ?_⟩
  rcases r3 z hz with h | h
  · exact .inl h
  · exact .inr (Nat.le_trans hs5 h)
end Go.Proofs.Ythgkminjhpaakaa
