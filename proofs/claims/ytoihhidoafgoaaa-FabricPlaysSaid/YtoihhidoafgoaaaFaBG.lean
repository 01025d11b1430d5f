/- The document's fabric (chapter 15): NewFabric. -/
import Derived.Test.YtoihhidoafgoaaaFaBF
import Derived.Laws.MakeOwn
namespace Go.Proofs.Ytoihhidoafgoaaa
open Go.RowKit

theorem info_mp : (Try.prog.info? 92).map (fun i => (i.zero, i.size, i.bytes)) = some (some (.pointer none), 1, 8) := by kernel_rfl
/-- a fabric that is being made: it has some ports yet -/
structure Nm (m B0 nb ib H S : Nat) (pv : Value) (b : Nat → Nat) (U : Nat → Nat → Value) (uc : Nat → Value) (p : Mp) (j : Nat) (w : World) : Prop where
  ob : Ob w m #[.pointer (some ⟨nb, 0, none⟩), pv, .slice (some ⟨ib, 0, none⟩) H H, .int .i64 0] TMf
  net : Mn nb H S w
  prt : w.ownsRow B0 TMp 1 pv j ((List.range j).map (ptrV b))
  inb : Ob w ib (vcells H fun _ => NIL) TFl
  po : ∀ i, i < j → Mo (b i) (U i) (uc i) p w
  apart : ∀ i i', i < j → i' < j → b i = b i' → i = i'
  base : B0 ≤ m
  bb : ∀ i, i < j → B0 ≤ b i
section
variable {m B0 nb ib H S j : Nat} {pv : Value} {b : Nat → Nat} {U : Nat → Nat → Value} {uc : Nat → Value} {p : Mp} {w w' : World}
theorem Nm.below (h : Nm m B0 nb ib H S pv b U uc p j w) (hk : Below w.heap.size w w') : Nm m B0 nb ib H S pv b U uc p j w' :=
  ⟨h.ob.below hk, Ob.below h.net hk, below_own h.prt hk, h.inb.below hk, fun i hi => (h.po i hi).below hk, h.apart, h.base, h.bb⟩
/-- one port more -/
theorem Nm.more (h : Nm m B0 nb ib H S pv b U uc p j w) {b' : Nat} {U' : Nat → Value} {uc' : Value} {v' : Value} (hp : Mo b' U' uc' p w) (hne : ∀ i, i < j → b i ≠ b') (hB : B0 ≤ b') (hk : Kept (Lm pv) w w') (ho : w'.ownsRow B0 TMp 1 v' (j + 1) ((List.range j).map (ptrV b) ++ [.pointer (some ⟨b', 0, none⟩)])) :
    Nm m B0 nb ib H S v' (upd b j b') (upd U j U') (upd uc j uc') p (j + 1) (w'.setCell ⟨m, 1, none⟩ v') := by
  have hLT : ∀ {x : Nat} {T : TypeId}, Ty w x T → T ≠ TMp → ¬ Lm pv x := fun hx hn hh => hn (hx.one (own_ty h.prt hh))
  have hLu : ∀ g, Lm pv g → g < w.heap.size → ∃ T, Ty w g T ∧ T ≠ TX := fun g hg _ => ⟨_, own_ty h.prt hg, by decide⟩
  have ob1 := h.ob.kept hk (hLT h.ob.ty (by decide))
  have nt1 : Mn nb H S w' := Ob.kept h.net hk (hLT (Ob.ty h.net) (by decide))
  have in1 := h.inb.kept hk (hLT h.inb.ty (by decide))
  have hkf : Kept (Only m) w' (w'.setCell ⟨m, 1, none⟩ v') := (Kept.refl _ _).setO
  have hFT : ∀ {x : Nat} {T : TypeId}, Ty w' x T → T ≠ TMf → ¬ Only m x := fun hx hn hh => by
    have : _ = m := hh
    subst this
    exact hn (hx.one ob1.ty)
  have hFu : ∀ g, Only m g → g < w'.heap.size → ∃ T, Ty w' g T ∧ T ≠ TX := fun g hg _ => ⟨TMf, by rw [show g = m from hg]; exact ob1.ty, by decide⟩
  have pok : ∀ {b0 : Nat} {U0 : Nat → Value} {uc0 : Value}, Mo b0 U0 uc0 p w → Mo b0 U0 uc0 p (w'.setCell ⟨m, 1, none⟩ v') := fun {b0 U0 uc0} hq => by
    have h1 : Mo b0 U0 uc0 p w' := hq.kept hk (hLT hq.ob.ty (by decide)) hLu
    exact h1.kept hkf (hFT h1.ob.ty (by decide)) hFu
  refine ⟨ob1.set 1 v', Ob.kept nt1 hkf (hFT (Ob.ty nt1) (by decide)), ?_, in1.kept hkf (hFT in1.ty (by decide)), fun i hi => ?_, fun i i' hi hi' hx => ?_, h.base, fun i hi => ?_⟩
  · have e : (List.range (j + 1)).map (ptrV (upd b j b')) = (List.range j).map (ptrV b) ++ [.pointer (some ⟨b', 0, none⟩)] := by
      rw [List.range_succ, List.map_append]
      congr 1
      · refine List.map_congr_left fun i hi => ?_
        have : i ≠ j := by have := List.mem_range.1 hi; omega
        unfold ptrV
        rw [upd_other b b' this]
      · unfold ptrV
        simp only [List.map_cons, List.map_nil]
        rw [upd_same]
    rw [e]
    exact own_kept ho hkf fun x hx => hFT (own_ty ho hx) (by decide)
  · by_cases e : i = j
    · subst e
      rw [upd_same, upd_same, upd_same]
      exact pok hp
    · rw [upd_other _ _ e, upd_other _ _ e, upd_other _ _ e]
      exact pok (h.po i (by omega))
  · by_cases e : i = j
    · subst e
      by_cases e' : i' = i
      · exact e'.symm
      · rw [upd_same, upd_other _ _ e'] at hx
        exact absurd hx.symm (hne i' (by omega))
    · by_cases e' : i' = j
      · subst e'
        rw [upd_same, upd_other _ _ e] at hx
        exact absurd hx (hne i (by omega))
      · rw [upd_other _ _ e, upd_other _ _ e'] at hx
        exact h.apart i i' (by omega) (by omega) hx
  · by_cases e : i = j
    · subst e
      rw [upd_same]
      exact hB
    · rw [upd_other _ _ e]
      exact h.bb i (by omega)
def newMs (H S : Nat) (room credits : Int) (trim : Bool) : Ms := ⟨H, S, fun _ => newM room credits trim, fun _ => [], 0⟩
theorem Nm.mf {pg pc : Nat} (h : Nm m B0 nb ib H S (.slice (some ⟨pg, 0, none⟩) (nP H S) pc) b U uc p (nP H S) w) (hs : Hs H S) {room credits : Int} {trim : Bool} (hp : p = newM room credits trim) : Mf m ⟨nb, pg, pc, ib, b, U, uc, fun _ => NIL⟩ (newMs H S room credits trim) w := by
  subst hp
  exact ⟨h.ob, h.net, hs, own_baseP h.prt (Nat.zero_le _), h.inb, fun k hk => ⟨Rd.nil _ _, fun a n c hv => by cases hv⟩, h.po, h.apart⟩
end
theorem info_ml : (Try.prog.info? 63).map (fun i => (i.zero, i.size, i.bytes)) = some (some NIL, 1, 24) := by kernel_rfl
def NewMf (H S : Nat) (room credits : Int) (trim : Bool) (w : World) (e : Ending) (w' : World) : Prop := ∃ m l, e = .returned (.tuple #[.pointer (some ⟨m, 0, none⟩), .int .i64 0]) ∧ Mf m l (newMs H S room credits trim) w' ∧ Below w.heap.size w w' ∧ (∀ x, RM l (newMs H S room credits trim) x → w.heap.size ≤ x) ∧ w.heap.size ≤ m
theorem made_vcells (n : Nat) : madeCells #[NIL] n = vcells n fun _ => NIL := by
  have h := made_nil n
  unfold vcells
  rw [← h]
set_option maxRecDepth 100000 in
set_option maxHeartbeats 4000000 in
theorem mf_new (H S : Nat) (room credits : Int) (trim : Bool) (w : World) (hs : Hs H S) (hr : 0 ≤ room ∧ room ≤ 1073741824) (hc : 0 ≤ credits ∧ credits ≤ 1073741824) : Calls Try.prog 20 #[.int .i64 H, .int .i64 S, .int .i64 room, .int .i64 credits, .bool trim] w (NewMf H S room credits trim w) := by
  have HR := Lib.hid hr
  have HC := Lib.hid hc
  obtain ⟨hh1, hh2⟩ := hs.h
  have hnp := hs.np
  have HS := Lib.hid hs
  clear hr hc hs
  go_enter Try.func20, Try.ntmps20
  go_wp2_with fail
  refine (mtnew_yes H S w HS.out).mono ?_
  rintro e w1 ⟨rfl, hn1, hb1⟩
  have N1 := Lib.hid hn1
  have B1 := Lib.hid hb1
  clear hn1 hb1
  obtain ⟨i0, hi0, hz0, hs0, hb0⟩ := info_parts info_ml
  go_wp2_with (refine wpList_make_row _ rfl (.tmp 28) (.tmp 28) _ rfl TFl i0 NIL (by rfl) hi0 hz0 hs0 rfl .i64 .i64 H rfl rfl (by rw [hb0]; omega) (by omega) ?_)
  have O3 := Ob.new (w1.alloc (.cells (madeCells #[NIL] H) TFl)) #[.pointer (some ⟨w.heap.size, 0, none⟩), NIL, .slice (some ⟨w1.heap.size, 0, none⟩) H H, .int .i64 0] TMf
  rw [World.size_alloc] at O3
  have R3 : Ob (w1.alloc (.cells (madeCells #[NIL] H) TFl)) w1.heap.size (vcells H fun _ => NIL) TFl := by
    rw [← made_vcells]
    exact Ob.new _ _ _
  have B3 := Lib.hid ((B1.out.alloc B1.out.size (.cells (madeCells #[NIL] H) TFl)).alloc (by rw [World.size_alloc]; have := B1.out.size; omega) (.cells #[.pointer (some ⟨w.heap.size, 0, none⟩), NIL, .slice (some ⟨w1.heap.size, 0, none⟩) H H, .int .i64 0] TMf))
  have N3 : Hid (Nm (w1.heap.size + 1) w.heap.size w.heap.size w1.heap.size H S NIL (fun _ => 0) (fun _ _ => NIL) (fun _ => NIL) (newM room credits trim) 0 ((w1.alloc (.cells (madeCells #[NIL] H) TFl)).alloc (.cells #[.pointer (some ⟨w.heap.size, 0, none⟩), NIL, .slice (some ⟨w1.heap.size, 0, none⟩) H H, .int .i64 0] TMf))) :=
    Lib.hid ⟨O3, Ob.alloc (Ob.alloc N1.out _) _, World.ownsRow_nil _ _ _ _, Ob.alloc R3 _, fun i hi => absurd hi (Nat.not_lt_zero _), fun i i' hi => absurd hi (Nat.not_lt_zero _), by have := B1.out.size; omega, fun i hi => absurd hi (Nat.not_lt_zero _)⟩
  clear O3 R3 hi0 hz0 hs0 hb0
  generalize (w1.alloc (.cells (madeCells #[NIL] H) TFl)).alloc (.cells #[.pointer (some ⟨w.heap.size, 0, none⟩), NIL, .slice (some ⟨w1.heap.size, 0, none⟩) H H, .int .i64 0] TMf) = w3 at *
  obtain ⟨f, hf⟩ : ∃ f, Hid (w1.heap.size + 1 = f) := ⟨_, Lib.hid rfl⟩
  rw [hf.out] at N3 ⊢
  have IB : Hid (w.heap.size ≤ w1.heap.size) := Lib.hid B1.out.size
  generalize w1.heap.size = ib at *
  go_wp2_with fail
  go_loopw [15, 16, 17, 38] (fun i _ _ _ wr => ∃ (j : Nat) (pv : Value) (b : Nat → Nat) (U : Nat → Nat → Value) (uc : Nat → Value), j ≤ nP H S ∧ i = .int .i64 j ∧ Nm f w.heap.size w.heap.size ib H S pv b U uc (newM room credits trim) j wr ∧ Below w.heap.size w wr) (fun i _ _ _ _ => nP H S - (intOf i).toNat)
  case atStart => exact ⟨0, _, _, _, _, by omega, rfl, N3.out, B3.out⟩
  case round =>
    obtain ⟨j, pv, b, U, uc, hj, rfl, hn, hb⟩ := hrel
    have N5 := Lib.hid hn
    have B5 := Lib.hid hb
    clear hn hb
    rename World => wi
    go_wp2_with fail
    refine (mnet_ports w.heap.size H S wi N5.out.net HS.out).mono ?_
    rintro e w4 ⟨rfl, hm⟩
    have N6 : Hid (Nm f w.heap.size w.heap.size ib H S pv b U uc (newM room credits trim) j w4) := by obtain ⟨q, rfl⟩ := hm; exact Lib.hid (N5.out.below (below_dn (Below.refl _ _)))
    have B6 : Hid (Below w.heap.size w w4) := by obtain ⟨q, rfl⟩ := hm; exact Lib.hid (below_dn B5.out)
    have hsz : w4.heap.size = wi.heap.size := by obtain ⟨q, rfl⟩ := hm; rfl
    clear hm
    by_cases hlt : j < nP H S
    · skip
      go_wp2_with fail
      refine (mnew2 room credits trim _ HR.out HC.out).mono ?_
      rintro e w6 ⟨b', U', uc', rfl, hp6, hb6, hge6⟩
      have N6 := Lib.hid (N6.out.below hb6)
      have P6 := Lib.hid hp6
      have B6 := Lib.hid (B6.out.trans (hb6.mono B6.out.size))
      clear hp6 hb6
      obtain ⟨pa, pc, rfl, hpc1, hpc2⟩ := (Rd.of_own N6.out.prt).form
      obtain ⟨l0, cells, f0⟩ := N6.out.ob.blk
      have c1 : w6.cell? ⟨f, 1, none⟩ = some (.slice pa j pc) := cells 1
      clear cells
      have hbw : w.heap.size ≤ w6.heap.size := B6.out.size
      have hbw2 : w.heap.size ≤ (w6.alloc (.cells #[.pointer (some ⟨b', 0, none⟩)] TMp)).heap.size := by rw [World.size_alloc]; omega
      have N7 := Lib.hid (N6.out.below ((Below.refl _ _).alloc (Nat.le_refl _) (.cells #[.pointer (some ⟨b', 0, none⟩)] TMp)))
      have P7 := Lib.hid (P6.out.below ((Below.refl _ _).alloc (Nat.le_refl _) (.cells #[.pointer (some ⟨b', 0, none⟩)] TMp)))
      have R7 := Lib.hid (Rd.one (k := 1) w6 #[.pointer (some ⟨b', 0, none⟩)] TMp rfl)
      have B7 := Lib.hid (B6.out.alloc hbw (.cells #[.pointer (some ⟨b', 0, none⟩)] TMp))
      have hpm : ∀ i, i < j → b i ≠ b' := fun i hi hh => by
        have := (N5.out.po i hi).ob.lt
        omega
      have HPM := Lib.hid hpm
      have HGE : Hid (w.heap.size ≤ b') := Lib.hid (Nat.le_trans B5.out.size (by omega))
      clear hpm hge6 hsz
      go_wp2_with (at_builtin; refine wpList_appAt rfl (.tmp 52) (.tmp 54) 59 rfl info_mp Try.underlying59 rfl (by decide) N7.out.prt R7.out rfl rfl (by simp [Value.oneCell']) (by omega) hbw2 ?_; intro v' w' ho' hg' hf'; obtain ⟨a', c', rfl, hc3, hc4⟩ := (Rd.of_own ho').form; have hG := Kept.of_grown (M := Lm (.slice pa j pc)) hg' (fun z hz => hz); have hMf : ¬ Lm (.slice pa j pc) f := fun hh => absurd ((own_ty N7.out.prt hh).one N7.out.ob.ty) (by decide); have lf7 := N7.out.ob.lt; have hlf : f < w'.heap.size := Nat.lt_of_lt_of_le lf7 hG.size; have hff : ∀ i, w'.frozen? ⟨f, i, none⟩ = false := fun i => (hG.frozen f i lf7 hMf).trans ((N7.out.ob.blk).2.2 i); have hcf : w'.cell? ⟨f, 1, none⟩ = some (.slice pa j pc) := (hG.cell f 1 lf7 hMf).trans ((N7.out.ob.blk).2.1 1))
      have HM := Lib.hid (N7.out.more P7.out (fun i hi => HPM.out i hi) HGE.out hG ho')
      have BM := Lib.hid ((B7.out.trans (hG.belowAt hbw2 (fun x hx => (N7.out.prt.lt x hx).1))).setCell (p := ⟨f, 1, none⟩) N6.out.base (.slice a' (j + 1) c'))
      go_roundw
      case rel => exact ⟨j + 1, _, _, _, _, by omega, by go_num, HM.out, BM.out⟩
      case measure => simp [intOf]; omega
    · obtain rfl : j = nP H S := by omega
      go_wp2_with fail
      go_ret2
      obtain ⟨g, cap, hv, _⟩ := own_some N6.out.prt (by omega)
      have N7 := N6.out
      subst hv
      refine ⟨_, _, rfl, N7.mf HS.out rfl, B6.out, fun x hx => ?_, N7.base⟩
      rcases hx with rfl | ⟨i, hi, rfl⟩ | ⟨k, hk, a, n, c, hv, rfl⟩
      · exact IB.out
      · exact N7.bb i hi
      · cases hv
theorem mf_new_no1 (H S room credits : Int) (trim : Bool) (w : World) (h : ¬ ((2 ≤ H ∧ H ≤ 8) ∧ 1 ≤ S ∧ S ≤ 4)) : Calls Try.prog 20 #[.int .i64 H, .int .i64 S, .int .i64 room, .int .i64 credits, .bool trim] w fun e w' => e = .returned (.tuple #[.pointer none, .int .i64 1]) ∧ w = w' := by
  have HN := Lib.hid h
  clear h
  go_enter Try.func20, Try.ntmps20
  go_wp2_with fail
  refine (mtnew_no H S w HN.out).mono ?_
  rintro e w1 ⟨rfl, rfl⟩
  go_wp2_with fail
  go_ret2
  exact ⟨rfl, rfl⟩
set_option maxRecDepth 100000 in
set_option maxHeartbeats 4000000 in
theorem mf_new_no2 (H S : Nat) (room credits : Int) (trim : Bool) (w : World) (hs : Hs H S) (h : ¬ ((0 ≤ room ∧ room ≤ 1073741824) ∧ 0 ≤ credits ∧ credits ≤ 1073741824)) : Calls Try.prog 20 #[.int .i64 H, .int .i64 S, .int .i64 room, .int .i64 credits, .bool trim] w fun e w' => e = .returned (.tuple #[.pointer none, .int .i64 1]) ∧ Below w.heap.size w w' := by
  have HN := Lib.hid h
  obtain ⟨hh1, hh2⟩ := hs.h
  obtain ⟨hnp1, hnp2⟩ := hs.np
  have HS := Lib.hid hs
  clear h hs
  go_enter Try.func20, Try.ntmps20
  go_wp2_with fail
  refine (mtnew_yes H S w HS.out).mono ?_
  rintro e w1 ⟨rfl, hn1, hb1⟩
  have N1 := Lib.hid hn1
  have B1 := Lib.hid hb1
  clear hn1 hb1
  obtain ⟨i0, hi0, hz0, hs0, hb0⟩ := info_parts info_ml
  go_wp2_with (refine wpList_make_row _ rfl (.tmp 28) (.tmp 28) _ rfl TFl i0 NIL (by rfl) hi0 hz0 hs0 rfl .i64 .i64 H rfl rfl (by rw [hb0]; omega) (by omega) ?_)
  have B3 := Lib.hid ((B1.out.alloc B1.out.size (.cells (madeCells #[NIL] H) TFl)).alloc (by rw [World.size_alloc]; have := B1.out.size; omega) (.cells #[.pointer (some ⟨w.heap.size, 0, none⟩), NIL, .slice (some ⟨w1.heap.size, 0, none⟩) H H, .int .i64 0] TMf))
  have N3 : Hid (Mn w.heap.size H S ((w1.alloc (.cells (madeCells #[NIL] H) TFl)).alloc (.cells #[.pointer (some ⟨w.heap.size, 0, none⟩), NIL, .slice (some ⟨w1.heap.size, 0, none⟩) H H, .int .i64 0] TMf))) :=
    Lib.hid (Ob.alloc (Ob.alloc N1.out _) _)
  clear hi0 hz0 hs0 hb0
  generalize (w1.alloc (.cells (madeCells #[NIL] H) TFl)).alloc (.cells #[.pointer (some ⟨w.heap.size, 0, none⟩), NIL, .slice (some ⟨w1.heap.size, 0, none⟩) H H, .int .i64 0] TMf) = w3 at *
  go_wp2_with fail
  go_loopw [15, 16, 17, 38] (fun i _ _ _ wr => i = .int .i64 0 ∧ wr = w3) (fun i _ _ _ _ => nP H S - (intOf i).toNat)
  case atStart => exact ⟨rfl, rfl⟩
  case round =>
    obtain ⟨rfl, rfl⟩ := hrel
    go_wp2_with fail
    refine (mnet_ports w.heap.size H S wr N3.out HS.out).mono ?_
    rintro e w4 ⟨rfl, hm⟩
    have B4 : Hid (Below w.heap.size w w4) := by obtain ⟨m, rfl⟩ := hm; exact Lib.hid (below_dn B3.out)
    clear hm
    go_wp2_with fail
    refine (mnew_no room credits trim _ HN.out).mono ?_
    rintro e w6 ⟨rfl, rfl⟩
    go_wp2_with fail
    go_ret2
    exact ⟨rfl, B4.out⟩
end Go.Proofs.Ytoihhidoafgoaaa
