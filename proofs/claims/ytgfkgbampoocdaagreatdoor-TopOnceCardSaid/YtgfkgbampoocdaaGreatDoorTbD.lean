/- What a host gets (chapter 20), as far as one source: how it lies; has, Ended, Waiting, Forget. -/
import Derived.Test.YtgfkgbampoocdaaGreatDoorTbB
import Derived.Test.YtgfkgbampoocdaaGreatDoorTbC
import Derived.Test.YtgfkgbampoocdaaGreatDoorIdsQ
namespace Go.Proofs.YtgfkgbampoocdaaGreatDoor
open Go.RowKit

abbrev TRv : TypeId := 67
abbrev TMsg : TypeId := 39
theorem ob_ne {w : World} {x y : Nat} {cs cs' : Array Value} {T T' : TypeId} (h : Ob w x cs T) (k : Ob w y cs' T') (hT : T ≠ T') : x ≠ y := fun e => by
  subst e
  have h1 : w.heap[x]? = _ := h
  have h2 : w.heap[x]? = _ := k
  rw [h2] at h1
  injection h1 with h1
  injection h1 with _ h1
  exact hT h1.symm
theorem own_ob {w : World} {B : Nat} {e : TypeId} {k : Nat} {v : Value} {n : Nat} {xs : List Value} (h : w.ownsRow B e k v n xs) {g : Nat} (hg : v.ownBlock = some g) : ∃ cur, Ob w g cur e := by
  rcases h.2 with ⟨rfl, _⟩ | ⟨g', cap, cur, rfl, h1, h2, _⟩
  · cases hg
  · cases hg
    exact ⟨cur, h2⟩
structure Pv where
  p0 : Value
  p1 : Value
  p2 : Value
  p4 : Value
  p5 : Value
  p6 : Value
  p7 : Value
structure Rs where
  R : Nat
  t : Nat
  s : Nat
  m : Nat
  P : Pv
def rc (r : Rs) (k3 : Int) (out : Value) : Array Value := #[.int .i64 1000, .pointer (some ⟨r.t, 0, none⟩), r.P.p0, r.P.p1, r.P.p2, .pointer (some ⟨r.m, 0, none⟩), r.P.p4, r.P.p5, r.P.p6, r.P.p7, .int .i64 0, .int .i64 0, .int .i64 0, .int .i64 k3, .int .i64 0, .int .i64 0, .int .i64 0, .int .i64 0, .int .i64 100, out]
structure Rv (r : Rs) (B : Nat) (V : Value) (S : Wd) (k3 : Int) (on : Option (Int × Value)) (out : Value) (n : Nat) (xs : List Value) (w : World) : Prop where
  ob : Ob w r.R (rc r k3 out) TRv
  tb : Tb r.t r.s on w
  wi : Wi r.m B V S w
  ou : w.ownsRow B TMsg 3 out n xs
  bR : B ≤ r.R
  bt : B ≤ r.t
  bs : B ≤ r.s
def RvM (r : Rs) (V out : Value) : Nat → Prop := fun x => x = r.R ∨ x = r.t ∨ x = r.s ∨ WM r.m V x ∨ out.ownBlock = some x
section
variable {r : Rs} {B : Nat} {V : Value} {S : Wd} {k3 : Int} {on : Option (Int × Value)} {out : Value} {n : Nat} {xs : List Value} {w w' : World}
theorem Rv.kept {M : Nat → Prop} (h : Rv r B V S k3 on out n xs w) (hk : Kept M w w') (hM : ∀ x, RvM r V out x → ¬ M x) : Rv r B V S k3 on out n xs w' :=
  ⟨h.ob.kept hk (hM _ (.inl rfl)), h.tb.kept hk (hM _ (.inr (.inl rfl))) (hM _ (.inr (.inr (.inl rfl)))), h.wi.kept hk fun x hx => hM x (.inr (.inr (.inr (.inl hx)))), own_kept h.ou hk fun x hx => hM x (.inr (.inr (.inr (.inr hx)))), h.bR, h.bt, h.bs⟩
theorem Rv.keptF (h : Rv r B V S k3 on out n xs w) (hk : Kept (fun _ => False) w w') : Rv r B V S k3 on out n xs w' := h.kept hk fun _ _ hh => hh
theorem Rv.lt (h : Rv r B V S k3 on out n xs w) : ∀ x, RvM r V out x → B ≤ x ∧ x < w.heap.size := by
  rintro x (rfl | rfl | rfl | hx | hx)
  · exact ⟨h.bR, h.ob.lt⟩
  · exact ⟨h.bt, h.tb.ob.lt⟩
  · exact ⟨h.bs, h.tb.sl.lt⟩
  · exact h.wi.lt x hx
  · exact own_lt h.ou x hx
/-- of three kinds of blocks none is another's -/
theorem Rv.apart (h : Rv r B V S k3 on out n xs w) : (r.R ≠ r.t ∧ r.R ≠ r.s ∧ r.t ≠ r.s) ∧ (¬ WM r.m V r.R ∧ ¬ WM r.m V r.t ∧ ¬ WM r.m V r.s) ∧ (out.ownBlock ≠ some r.R ∧ out.ownBlock ≠ some r.t ∧ out.ownBlock ≠ some r.s ∧ ∀ x, WM r.m V x → out.ownBlock ≠ some x) := by
  have nW : ∀ y cs T, Ob w y cs T → T ≠ TW → T ≠ TU → ¬ WM r.m V y := fun y cs T hy h1 h2 hh => by
    rcases hh with e | e
    · exact ob_ne hy h.wi.ob h1 e
    · obtain ⟨cur, hc⟩ := own_ob h.wi.own e
      exact ob_ne hy hc h2 rfl
  have nO : ∀ y cs T, Ob w y cs T → T ≠ TMsg → out.ownBlock ≠ some y := fun y cs T hy h1 e => by
    obtain ⟨cur, hc⟩ := own_ob h.ou e
    exact ob_ne hy hc h1 rfl
  refine ⟨⟨ob_ne h.ob h.tb.ob (by decide), ob_ne h.ob h.tb.sl (by decide), h.tb.ne⟩, ⟨nW _ _ _ h.ob (by decide) (by decide), nW _ _ _ h.tb.ob (by decide) (by decide), nW _ _ _ h.tb.sl (by decide) (by decide)⟩, nO _ _ _ h.ob (by decide), nO _ _ _ h.tb.ob (by decide), nO _ _ _ h.tb.sl (by decide), fun x hx => ?_⟩
  rcases hx with rfl | hx
  · exact nO _ _ _ h.wi.ob (by decide)
  · obtain ⟨cur, hc⟩ := own_ob h.wi.own hx
    exact nO _ _ _ hc (by decide)
end
theorem has3 (r : Rs) (B : Nat) (V : Value) (S : Wd) (k3 : Int) (on : Option (Int × Value)) (out : Value) (n : Nat) (xs : List Value) (w : World) (h : Rv r B V S k3 on out n xs w) : Calls Tryz.prog 32 #[.pointer (some ⟨r.R, 0, none⟩), .int .i64 3] w fun e w' => e = .returned (.bool true) ∧ w = w' := by
  obtain ⟨lb, cb, fb⟩ := h.ob.blk
  have c1 : w.cell? ⟨r.R, 1, none⟩ = some (.pointer (some ⟨r.t, 0, none⟩)) := cb 1
  clear cb h
  go_enter Tryz.func32, Tryz.ntmps32
  go_wp2_with fail
  go_ret
  exact ⟨rfl, rfl⟩
theorem ended_any (r : Rs) (B : Nat) (V : Value) (S : Wd) (k3 : Int) (on : Option (Int × Value)) (out : Value) (n : Nat) (xs : List Value) (id : Int) (w : World) (h : Rv r B V S k3 on out n xs w) (ho : S.ok) : Calls Tryz.prog 13 #[.pointer (some ⟨r.R, 0, none⟩), .int .i64 3, .int .u64 id] w fun e w' => e = .returned (.bool (S.is id)) ∧ ∃ q, w' = w.drewN q := by
  obtain ⟨lb, cb, fb⟩ := h.ob.blk
  have c5 : w.cell? ⟨r.R, 5, none⟩ = some (.pointer (some ⟨r.m, 0, none⟩)) := cb 5
  have HR := Lib.hid h
  have HO := Lib.hid ho
  clear cb h ho
  go_enter Tryz.func13, Tryz.ntmps13
  go_wp2_with fail
  refine (has3 r B V S k3 on out n xs _ HR.out).mono ?_
  rintro e w1 ⟨rfl, rfl⟩
  go_wp2_with fail
  refine (is_any r.m B V S id _ HR.out.wi HO.out).mono ?_
  rintro e w1 ⟨rfl, q, rfl⟩
  go_wp2_with fail
  go_ret
  exact ⟨rfl, q, rfl⟩
theorem waiting_any (r : Rs) (B : Nat) (V : Value) (S : Wd) (k3 : Int) (on : Option (Int × Value)) (out : Value) (n : Nat) (xs : List Value) (w : World) (h : Rv r B V S k3 on out n xs w) : Calls Tryz.prog 35 #[.pointer (some ⟨r.R, 0, none⟩)] w fun e w' => e = .returned (.int .i64 n) ∧ w = w' := by
  obtain ⟨lb, cb, fb⟩ := h.ob.blk
  obtain ⟨a, c, rfl, _, _⟩ := (Rd.of_own h.ou).form
  have c19 : w.cell? ⟨r.R, 19, none⟩ = some (.slice a n c) := cb 19
  clear cb h
  go_enter Tryz.func35, Tryz.ntmps35
  go_wp2_with fail
  go_ret
  exact ⟨rfl, rfl⟩
set_option maxRecDepth 100000 in
theorem forget_one (r : Rs) (B : Nat) (V : Value) (S : Wd) (id : Int) (v : Value) (out : Value) (n : Nat) (xs : List Value) (w : World) (h : Rv r B V S 1 (some (id, v)) out n xs w) : Calls Tryz.prog 28 #[.pointer (some ⟨r.R, 0, none⟩), .int .i64 3, .int .u64 id] w fun e w' => e = .returned (.bool true) ∧ Rv r B V S 0 none out n xs w' ∧ Kept (fun x => x = r.R ∨ x = r.t ∨ x = r.s) w w' := by
  obtain ⟨lb, cb, fb⟩ := h.ob.blk
  have c1 : w.cell? ⟨r.R, 1, none⟩ = some (.pointer (some ⟨r.t, 0, none⟩)) := cb 1
  have HR := Lib.hid h
  clear cb h
  go_enter Tryz.func28, Tryz.ntmps28
  go_wp2_with fail
  refine (has3 r B V S 1 _ out n xs _ HR.out).mono ?_
  rintro e w1 ⟨rfl, rfl⟩
  go_wp2_with fail
  refine (del_one r.t r.s id v _ HR.out.tb).mono ?_
  rintro e w1 ⟨rfl, ht1, hk1⟩
  obtain ⟨⟨a1, a2, a3⟩, ⟨b1, b2, b3⟩, d1, d2, d3, d4⟩ := HR.out.apart
  have HO1 := Lib.hid (HR.out.ob.kept hk1 (fun hh => hh.elim a1 a2))
  have HW1 := Lib.hid (HR.out.wi.kept hk1 (fun x hx hh => by rcases hh with rfl | rfl; exact b2 hx; exact b3 hx))
  have HU1 := Lib.hid (own_kept HR.out.ou hk1 (fun x hx hh => by rcases hh with rfl | rfl; exact d2 hx; exact d3 hx))
  have HT1 := Lib.hid ht1
  have HK1 := Lib.hid (hk1.mono (N := fun x => x = r.R ∨ x = r.t ∨ x = r.s) fun _ _ h => .inr h)
  clear c1 lb fb ht1 hk1
  obtain ⟨lb, cb, fb⟩ := HO1.out.blk
  have c13 : w1.cell? ⟨r.R, 13, none⟩ = some (.int .i64 1) := cb 13
  clear cb
  go_wp2_with fail
  refine region_tail 10 (by kernel_rfl) (by kernel_rfl) ?_
  simp only [List.take_succ_cons, List.take_zero, List.drop_succ_cons, List.drop_zero]
  repeat (first | still_step)
  refine wpStill_nil ?_
  go_wp2_with fail
  go_ret
  have nR : ∀ x, Only r.R x → x = r.R := fun _ h => h
  have hkO : Kept (Only r.R) w1 (w1.drew.setCell ⟨r.R, 13, none⟩ (.int .i64 0)) := by
    repeat (first | (with_reducible refine (Kept.drewR ?_)) | (with_reducible refine (Kept.dnR ?_ _)) | (with_reducible refine (Kept.setO ?_)) | exact (Kept.refl _ _))
  refine ⟨rfl, ⟨Ob.cast (HO1.out.drew.set 13 (.int .i64 0)) rfl, HT1.out.kept hkO a1.symm a2.symm, HW1.out.kept hkO (fun x hx hh => by rw [nR x hh] at hx; exact b1 hx), own_kept HU1.out hkO (fun x hx hh => by rw [nR x hh] at hx; exact d1 hx), HR.out.bR, HR.out.bt, HR.out.bs⟩, HK1.out.trans (hkO.mono fun _ _ h => .inl h)⟩
end Go.Proofs.YtgfkgbampoocdaaGreatDoor
