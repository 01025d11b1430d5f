/- What a host gets (chapter 20): Poll. -/
import Derived.Test.YtgfkgbampoocdaaGreatDoorTbH
import Derived.Test.YtgfkgbampoocdaaGreatDoorTbI
namespace Go.Proofs.YtgfkgbampoocdaaGreatDoor
open Go.RowKit

/-- Delete, of the first one -/
theorem delete_first (B : Nat) (V : Value) (n : Nat) (xs : List Value) (w : World) (h : w.ownsRow B TMsg 3 V (n + 1) xs) (h1c : ∀ u ∈ xs, u.oneCell' = true) :
    Calls Tryz.prog 36 #[V, .int .i64 0, .int .i64 1] w fun e w' => ∃ V', e = .returned V' ∧ w'.ownsRow B TMsg 3 V' n (xs.drop 3) ∧ Kept (Lk V) w w' ∧ V'.ownBlock = V.ownBlock := by
  obtain ⟨g, cap, rfl, hg, hnc, hcm, _⟩ := own_some h (Nat.succ_pos n)
  obtain ⟨_, _, hcm, _, cs, hr, hcl, hct⟩ := own_row h
  refine (delete_msg g (n + 1) cap 0 1 cs w hr hcl hnc hcm (Nat.zero_le _) (by omega) (fun u hu => h1c u (by rw [← hct]; exact hu))).mono ?_
  rintro e w' ⟨rfl, hk, cs', hr', hl', ht'⟩
  refine ⟨_, rfl, ?_, hk.mono (fun x _ hx => by rw [show x = g from hx]; rfl), rfl⟩
  refine row_own hg (by omega) hcm hr' (by rw [hl', hcl]) ?_
  rw [hct] at ht'
  simpa using ht'
set_option maxRecDepth 100000 in
theorem poll_nil (r : Rs) (B : Nat) (V : Value) (S : Wd) (k3 : Int) (on : Option (Int × Value)) (out : Value) (xs : List Value) (w : World) (h : Rv r B V S k3 on out 0 xs w) : Calls Tryz.prog 11 #[.pointer (some ⟨r.R, 0, none⟩)] w fun e w' => (∃ x y p n c, e = .returned (.tuple #[.agg #[.int .i64 x, .int .u64 y, .slice p n c], .bool false])) ∧ Kept (fun _ => False) w w' := by
  have HR := Lib.hid h
  clear h
  go_enter Tryz.func11, Tryz.ntmps11
  go_wp2_with fail
  refine (waiting_any r B V S k3 on out 0 xs _ (HR.out.keptF ((Kept.refl _ w).alloc _))).mono ?_
  rintro e w1 ⟨rfl, rfl⟩
  go_wp2_with fail
  refine done (.tuple #[.agg #[.int .i64 0, .int .u64 0, .slice none 0 0], .bool false]) rfl (by simp [results, Tryz.results11, go_sem]) ⟨⟨0, 0, none, 0, 0, rfl⟩, (Kept.refl _ w).alloc _⟩
set_option maxRecDepth 100000 in
set_option maxHeartbeats 1000000 in
theorem poll_one (r : Rs) (B : Nat) (V : Value) (S : Wd) (out : Value) (n : Nat) (xs : List Value) (w : World) (h : Rv r B V S 0 none out (n + 1) xs w) (hx : Ms xs) : Calls Tryz.prog 11 #[.pointer (some ⟨r.R, 0, none⟩)] w fun e w' => (∃ x y p n c, e = .returned (.tuple #[.agg #[.int .i64 x, .int .u64 y, .slice p n c], .bool true])) ∧ ∃ out' xs', Rv r B V S 0 none out' n xs' w' ∧ Ms xs' ∧ Kept (fun x => x = r.R ∨ out.ownBlock = some x) w w' ∧ out'.ownBlock = out.ownBlock := by
  obtain ⟨id, p, k, c, ys, rfl, hys⟩ := hx.first h.ou.1
  have HX := Lib.hid hys
  have HR := Lib.hid h
  have H1 := Lib.hid hx.one
  clear h hx hys
  go_enter Tryz.func11, Tryz.ntmps11
  go_wp2_with fail
  refine (waiting_any r B V S 0 none out (n + 1) _ _ (HR.out.keptF ((Kept.refl _ w).alloc _))).mono ?_
  rintro e w1 ⟨rfl, rfl⟩
  have HR1 := Lib.hid (HR.out.keptF ((Kept.refl _ w).alloc (.cells #[.int .i64 0, .int .u64 0, .slice none 0 0] TMsg)))
  have HK1 := Lib.hid ((Kept.refl (fun _ => False) w).alloc (.cells #[.int .i64 0, .int .u64 0, .slice none 0 0] TMsg))
  have HB1 := Lib.hid (Ob.new w #[.int .i64 0, .int .u64 0, .slice none 0 0] TMsg)
  generalize w.alloc (.cells #[.int .i64 0, .int .u64 0, .slice none 0 0] TMsg) = w1 at *
  obtain ⟨X, HXs⟩ : ∃ X, Hid (w.heap.size = X) := ⟨_, Lib.hid rfl⟩
  rw [HXs.out] at HB1 ⊢
  obtain ⟨lb, cb, fb⟩ := HR1.out.ob.blk
  obtain ⟨g, cap, rfl, hg, hnc, hcm, hgl, hgc, hgf⟩ := own_some HR1.out.ou (Nat.succ_pos n)
  have c19 : w1.cell? ⟨r.R, 19, none⟩ = some (.slice (some ⟨g, 0, none⟩) (n + 1 : Nat) cap) := cb 19
  have g0 := hgc 0 _ rfl
  have g1 := hgc 1 _ rfl
  have g2 := hgc 2 _ rfl
  clear cb hgc
  go_wp2_with fail
  have HR2 := Lib.hid (HR1.out.keptF ((Kept.refl _ w1).alloc (.cells #[.int .i64 3, .int .u64 id, .slice p k c] TMsg)))
  have HK2 := Lib.hid (HK1.out.trans ((Kept.refl _ w1).alloc (.cells #[.int .i64 3, .int .u64 id, .slice p k c] TMsg)))
  have HB2 := Lib.hid (HB1.out.alloc (.cells #[.int .i64 3, .int .u64 id, .slice p k c] TMsg))
  have HC2 := Lib.hid (Ob.new w1 #[.int .i64 3, .int .u64 id, .slice p k c] TMsg)
  have HgX : Hid (g ≠ X) := Lib.hid (by have := (own_lt HR.out.ou g rfl).2; have := HXs.out; omega)
  have HgY : Hid (g ≠ w1.heap.size) := Lib.hid (by omega)
  have hXY : Hid (X ≠ w1.heap.size) := Lib.hid (by have := HB1.out.lt; omega)
  clear c19 g0 g1 g2 lb fb hgf
  generalize hw2 : w1.alloc (.cells #[.int .i64 3, .int .u64 id, .slice p k c] TMsg) = w2 at *
  obtain ⟨Y, HY⟩ : ∃ Y, Hid (w1.heap.size = Y) := ⟨_, Lib.hid rfl⟩
  rw [HY.out] at HC2 HgY hXY ⊢
  refine (delete_first B _ n _ _ HR2.out.ou H1.out).mono ?_
  rintro e w3 ⟨V3, rfl, ho3, hk3, he3⟩
  obtain ⟨⟨a1, a2, a3⟩, ⟨b1, b2, b3⟩, d1, d2, d3, d4⟩ := HR2.out.apart
  have HO3 := Lib.hid (HR2.out.ob.kept hk3 d1)
  have HT3 := Lib.hid (HR2.out.tb.kept hk3 d2 d3)
  have HW3 := Lib.hid (HR2.out.wi.kept hk3 (fun y hy hh => d4 y hy hh))
  have HU3 := Lib.hid ho3
  have HE3 := Lib.hid he3
  have HK3 := Lib.hid hk3
  have HB3 := Lib.hid (HB2.out.kept hk3 (fun hh => HgX.out (by injection hh)))
  have HC3 := Lib.hid (HC2.out.kept hk3 (fun hh => HgY.out (by injection hh)))
  obtain ⟨oa', oc', rfl, _, _⟩ := (Rd.of_own HU3.out).form
  clear ho3 hk3 he3
  obtain ⟨lb, cb, fb⟩ := HO3.out.blk
  have c19 : w3.cell? ⟨r.R, 19, none⟩ = some (.slice (some ⟨g, 0, none⟩) (n + 1 : Nat) cap) := cb 19
  obtain ⟨lx, cx, fx⟩ := HB3.out.blk
  obtain ⟨ly, cy, fy⟩ := HC3.out.blk
  have x0 : w3.cell? ⟨X, 0, none⟩ = some (.int .i64 0) := cx 0
  have x1 : w3.cell? ⟨X, 1, none⟩ = some (.int .u64 0) := cx 1
  have x2 : w3.cell? ⟨X, 2, none⟩ = some (.slice none 0 0) := cx 2
  have y0 : w3.cell? ⟨Y, 0, none⟩ = some (.int .i64 3) := cy 0
  have y1 : w3.cell? ⟨Y, 1, none⟩ = some (.int .u64 id) := cy 1
  have y2 : w3.cell? ⟨Y, 2, none⟩ = some (.slice p k c) := cy 2
  have nRX := Lib.hid (show r.R ≠ X by intro e; have := HR.out.ob.lt; have := HXs.out; omega)
  have nRY := Lib.hid (show r.R ≠ Y by intro e; have := HR1.out.ob.lt; have := HY.out; omega)
  have q1 : ¬ X = r.R := fun e => nRX.out e.symm
  have q2 : ¬ Y = r.R := fun e => nRY.out e.symm
  have q3 : ¬ Y = X := fun e => hXY.out e.symm
  clear cb cx cy
  go_wp2_with fail
  have HO5 := ((((HO3.out.set 19 (.slice oa' n oc')).other ⟨X, 0, none⟩ (.int .i64 3) nRX.out).other ⟨X, 1, none⟩ (.int .u64 id) nRX.out).other ⟨X, 2, none⟩ (.slice p k c) nRX.out)
  have HX5 := ((((HB3.out.other ⟨r.R, 19, none⟩ (.slice oa' n oc') q1).set 0 (.int .i64 3)).set 1 (.int .u64 id)).set 2 (.slice p k c))
  have k4 : Kept (Only r.R) w3 (w3.setCell ⟨r.R, 19, none⟩ (.slice oa' n oc')) := (Kept.refl _ w3).setO
  have k5 : Kept (Only X) (w3.setCell ⟨r.R, 19, none⟩ (.slice oa' n oc')) ((((w3.setCell ⟨r.R, 19, none⟩ (.slice oa' n oc')).setCell ⟨X, 0, none⟩ (.int .i64 3)).setCell ⟨X, 1, none⟩ (.int .u64 id)).setCell ⟨X, 2, none⟩ (.slice p k c)) := (Kept.refl _ _).setO.setO.setO
  generalize (((w3.setCell ⟨r.R, 19, none⟩ (.slice oa' n oc')).setCell ⟨X, 0, none⟩ (.int .i64 3)).setCell ⟨X, 1, none⟩ (.int .u64 id)).setCell ⟨X, 2, none⟩ (.slice p k c) = w5 at *
  generalize w3.setCell ⟨r.R, 19, none⟩ (.slice oa' n oc') = w4 at *
  obtain ⟨_, cz, _⟩ := HX5.blk
  have z0 : w5.cell? ⟨X, 0, none⟩ = some (.int .i64 3) := cz 0
  have z1 : w5.cell? ⟨X, 1, none⟩ = some (.int .u64 id) := cz 1
  have z2 : w5.cell? ⟨X, 2, none⟩ = some (.slice p k c) := cz 2
  have nR : ∀ y, Only r.R y → y = r.R := fun _ h => h
  have nX : ∀ y, Only X y → y = X := fun _ h => h
  have hX : ∀ y, RvM r V (.slice (some ⟨g, 0, none⟩) (n + 1) cap) y → ¬ Only X y := fun y hy hh => by
    have := (HR.out.lt y hy).2
    have e := nX y hh
    have := HXs.out
    omega
  have s1 := HK2.out.size
  have hXw : w.heap.size ≤ X := Nat.le_of_eq HXs.out
  have hko := ((HK2.out.mono (N := fun y => y = r.R ∨ (Value.slice (some ⟨g, 0, none⟩) (n + 1) cap).ownBlock = some y) fun _ _ h => h.elim).comp HK3.out fun y hy => .inl (.inr hy)).comp k4 fun y hy => .inl (.inl (nR y hy))
  refine done (.tuple #[.agg #[.int .i64 3, .int .u64 id, .slice p k c], .bool true]) rfl (by simp [results, Tryz.results11, go_sem, z0, z1, z2]) ⟨⟨_, _, _, _, _, rfl⟩, _, ys, ⟨Ob.cast HO5 rfl, (HT3.out.kept k4 a1.symm a2.symm).kept k5 (hX _ (.inr (.inl rfl))) (hX _ (.inr (.inr (.inl rfl)))), (HW3.out.kept k4 (fun y hy hh => by rw [nR y hh] at hy; exact b1 hy)).kept k5 (fun y hy => hX y (.inr (.inr (.inr (.inl hy))))), ?_, HR.out.bR, HR.out.bt, HR.out.bs⟩, HX.out, hko.comp k5 fun y hy => .inr (by rw [nX y hy]; exact hXw), HE3.out⟩
  refine own_kept (own_kept HU3.out k4 (fun y hy hh => ?_)) k5 (fun y hy => hX y (.inr (.inr (.inr (.inr (by rw [← HE3.out]; exact hy))))))
  rw [HE3.out] at hy
  rw [nR y hh] at hy
  exact d1 hy
end Go.Proofs.YtgfkgbampoocdaaGreatDoor
