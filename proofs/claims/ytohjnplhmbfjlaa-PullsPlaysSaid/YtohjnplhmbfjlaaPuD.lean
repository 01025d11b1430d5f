/- Who waits (chapter 18): Next. -/
import Derived.Test.YtohjnplhmbfjlaaPuC
namespace Go.Proofs.Ytohjnplhmbfjlaa
open Go.RowKit

theorem pick_some {l : List Fl} {Z : Int} {i : Nat} (h : pick l Z = some i) : ∃ h : i < l.length, 0 < l[i].wt := by
  unfold pick at h
  cases h1 : l.findIdx? (fun y => decide (Z < y.id) && decide (0 < y.wt)) with
  | some j =>
    rw [h1] at h
    obtain rfl : j = i := by simpa using h
    obtain ⟨a, b, _⟩ := List.findIdx?_eq_some_iff_getElem.1 h1
    exact ⟨a, by simp at b; exact b.2⟩
  | none =>
    rw [h1] at h
    have h : l.findIdx? (fun y => decide (0 < y.wt)) = some i := by simpa using h
    obtain ⟨a, b, _⟩ := List.findIdx?_eq_some_iff_getElem.1 h
    exact ⟨a, by simpa using b⟩
def Ps.turn (s : Ps) (k : Nat) : Nat := (s.last.toNat + k) % 8
def Ps.idle (s : Ps) (k : Nat) : Prop := pick (s.L (s.turn k)) (s.Z (s.turn k)) = none
def Ps.serve (s : Ps) (p i : Nat) (x : Fl) : Ps := { s with last := p + 1, L := upd s.L p ((s.L p).set i ⟨x.id, x.wt - 1, x.pl + 1⟩), Z := upd s.Z p x.id }
def NextPost (b B0 : Nat) (V : Nat → Value) (s : Ps) (w : World) (e : Ending) (w' : World) : Prop :=
  ((∀ k, k < 8 → s.idle k) ∧ e = .returned (.tuple #[.int .i64 0, .int .u64 0, .int .i64 0, .bool false]) ∧ Below w.heap.size w w') ∨
  ∃ k i x, k < 8 ∧ (∀ j, j < k → s.idle j) ∧ pick (s.L (s.turn k)) (s.Z (s.turn k)) = some i ∧ (s.L (s.turn k))[i]? = some x ∧ e = .returned (.tuple #[.int .i64 (s.turn k), .int .u64 x.id, .int .i64 (x.pl + 1), .bool true]) ∧ PuPost b B0 V (s.serve (s.turn k) i x) w w'
theorem Pu.serve {b B0 : Nat} {V : Nat → Value} {s : Ps} {w : World} (h : Pu b B0 V s w) {q g c i : Nat} (hq : q < 8) (hV : V q = .slice (some ⟨g, 0, none⟩) (s.L q).length c) (hi : i < (s.L q).length) {x : Fl} (hx : (s.L q)[i] = x) :
    Pu b B0 V { s with L := upd s.L q ((s.L q).set i ⟨x.id, x.wt - 1, x.pl + 1⟩) } ((w.setCell ⟨g, i * 3 + 1, none⟩ (.int .i64 (x.wt - 1))).setCell ⟨g, i * 3 + 2, none⟩ (.int .i64 (x.pl + 1))) := by
  have h1 := h.fl (j := 1) (x := ⟨x.id, x.wt - 1, x.pl⟩) (u := .int .i64 (x.wt - 1)) hq hV hi (by decide) (by rw [hx]; rfl)
  have e1 : (upd s.L q ((s.L q).set i ⟨x.id, x.wt - 1, x.pl⟩)) q = (s.L q).set i ⟨x.id, x.wt - 1, x.pl⟩ := upd_same _ _ _
  have h2 := h1.fl (p := q) (g := g) (c := c) (i := i) (j := 2) (x := ⟨x.id, x.wt - 1, x.pl + 1⟩) (u := .int .i64 (x.pl + 1)) hq (by
    show V q = .slice _ ((upd s.L q ((s.L q).set i ⟨x.id, x.wt - 1, x.pl⟩)) q).length c
    rw [e1, List.length_set]; exact hV) (by
    show i < ((upd s.L q ((s.L q).set i ⟨x.id, x.wt - 1, x.pl⟩)) q).length
    rw [e1, List.length_set]; exact hi) (by decide) (by
    have : ∀ (l : List Fl) (hl : l = (s.L q).set i ⟨x.id, x.wt - 1, x.pl⟩) (h : i < l.length), (⟨x.id, x.wt - 1, x.pl + 1⟩ : Fl).row = l[i].row.set 2 (.int .i64 (x.pl + 1)) := by
      rintro l rfl h
      rw [List.getElem_set_self]; rfl
    exact this _ e1 _)
  have e2 : upd (upd s.L q ((s.L q).set i ⟨x.id, x.wt - 1, x.pl⟩)) q (((upd s.L q ((s.L q).set i ⟨x.id, x.wt - 1, x.pl⟩)) q).set i ⟨x.id, x.wt - 1, x.pl + 1⟩) = upd s.L q ((s.L q).set i ⟨x.id, x.wt - 1, x.pl + 1⟩) := by
    rw [e1, upd_upd, List.set_set]
  have h3 : Pu b B0 V { s with L := upd (upd s.L q ((s.L q).set i ⟨x.id, x.wt - 1, x.pl⟩)) q (((upd s.L q ((s.L q).set i ⟨x.id, x.wt - 1, x.pl⟩)) q).set i ⟨x.id, x.wt - 1, x.pl + 1⟩) } _ := h2
  rw [e2] at h3
  exact h3
theorem nextnil_pu (w : World) : Calls Try.prog 10 #[.pointer none] w fun e w' => e = .returned (.tuple #[.int .i64 0, .int .u64 0, .int .i64 0, .bool false]) ∧ w = w' := by
  go_enter Try.func10, Try.ntmps10
  go_wp2_with fail
  exact done (.tuple #[.int .i64 0, .int .u64 0, .int .i64 0, .bool false]) rfl (by simp [results, Try.results10, go_sem]) ⟨rfl, rfl⟩
set_option maxRecDepth 100000 in
set_option maxHeartbeats 4000000 in
theorem next_pu (b B0 : Nat) (V : Nat → Value) (s : Ps) (N : Int) (w : World) (h : Pu b B0 V s w) (ho : s.ok N) (hN : N ≤ 1000000000) :
    Calls Try.prog 10 #[.pointer (some ⟨b, 0, none⟩)] w (NextPost b B0 V s w) := by
  have HP := Lib.hid h
  have HO := Lib.hid ho
  obtain ⟨t0, t1⟩ := ho.la
  clear h ho
  go_enter Try.func10, Try.ntmps10
  go_wp2_with fail
  go_loopw [12] (fun i wr => ∃ k : Nat, i = .int .i64 k ∧ k ≤ 8 ∧ Hid (∀ j, j < k → s.idle j) ∧ Below w.heap.size w wr) (fun i _ => 8 - (intOf i).toNat)
  case atStart => exact ⟨0, rfl, Nat.zero_le _, Lib.hid (fun j hj => by omega), Below.refl _ _⟩
  case round =>
    obtain ⟨k, rfl, hk, HI, hb⟩ := hrel
    have HB := Lib.hid hb
    have hPk := HP.out.below hb
    have HPk := Lib.hid hPk
    have sb := hb.size
    clear hb
    by_cases hlt : k < 8
    · obtain ⟨lb, cb, fb⟩ := hPk.ob.blk
      have c2 : wr.cell? ⟨b, 2, none⟩ = some (.int .i64 s.last) := cb 2
      clear cb hPk
      go_upto_region 7 with fail
      obtain ⟨q, HQ⟩ : ∃ q, Hid (s.turn k = q) := ⟨_, Lib.hid rfl⟩
      have hq : q < 8 := by rw [← HQ.out]; exact Nat.mod_lt _ (by decide)
      have hq2 : (q : Int) < 8 := by omega
      have hqe : (s.last + (k : Int)) % 8 = (q : Int) := by rw [← HQ.out]; unfold Ps.turn; omega
      rw [hqe]
      have hql := HO.out.len hq
      clear hqe c2 lb fb t0 t1
      go_wp2_with fail
      refine (next_peer b B0 V s q _ HPk.out hq (by omega)).mono ?_
      rintro e w2 ⟨rfl, hb2⟩
      have HB2 := Lib.hid (HB.out.trans (hb2.mono sb))
      have hP2 := HP.out.below HB2.out
      have HP2 := Lib.hid hP2
      clear hb2
      cases hpi : pick (s.L q) (s.Z q) with
      | none =>
        have HPI := Lib.hid hpi
        clear hpi hP2
        simp only [optI]
        go_wp2_with fail
        go_roundw
        case rel => exact ⟨k + 1, by go_num, by omega, Lib.hid (fun j hj => by
          rcases Nat.lt_or_ge j k with h | h
          · exact HI.out j h
          · obtain rfl : j = k := by omega
            unfold Ps.idle; rw [HQ.out]; exact HPI.out), HB2.out⟩
        case measure => simp [intOf]; omega
      | some i =>
        have HPI := Lib.hid hpi
        obtain ⟨hi, hwt⟩ := pick_some hpi
        obtain ⟨x, HX⟩ : ∃ x, Hid ((s.L q)[i] = x) := ⟨_, Lib.hid rfl⟩
        rw [HX.out] at hwt
        obtain ⟨f1, f2, f3, f4, f5, f6⟩ := HO.out.fl q hq x (by rw [← HX.out]; exact List.getElem_mem hi)
        simp only [optI]
        obtain ⟨lb, cb, fb⟩ := hP2.ob.blk
        have cv : w2.cell? ⟨b, 3 + q * 2, none⟩ = some (V q) := by rw [cb, p_get _ _ hq]
        obtain ⟨g, c, hv, hle, hcm⟩ := own_some (hP2.own q hq) (by omega)
        have HV := Lib.hid hv
        rw [hv] at cv
        have hrd := Rd.of_own (hP2.own q hq)
        rw [hv] at hrd
        obtain ⟨gr, o, hgo, hgl, cw⟩ := Rd.row rowFl (by decide) hrd i hi
        cases hgo
        rw [HX.out] at cw
        have cf0 := cw 0 (.int .u64 x.id) rfl
        have cf1 := cw 1 (.int .i64 x.wt) rfl
        have cf2 := cw 2 (.int .i64 x.pl) rfl
        rw [Nat.zero_add] at cf0 cf1 cf2
        rw [Nat.add_zero] at cf0
        clear cb cw hrd hP2 hpi hv
        have hgf : ∀ j, w2.frozen? ⟨g, j, none⟩ = false := by
          have h1 := HP2.out.own q hq
          rw [HV.out] at h1
          obtain ⟨_, _, _, _, cs, hr, _, _⟩ := own_row h1
          exact fun j => hr.free j
        have hbg : b ≠ g := fun e => HP2.out.off q hq (by rw [HV.out, e]; rfl)
        go_upto_region 13 with fail
        have hP3 := HP2.out.serve hq HV.out hi HX.out
        have hgV : (V q).ownBlock = some g := by rw [HV.out]; rfl
        have hgw : ∀ (B : Nat), PM b V g := fun _ => .inr ⟨q, hq, hgV⟩
        have HK3 := Lib.hid (((Kept.of_below (M := PM b V) HB2.out).set ⟨g, i * 3 + 1, none⟩ (.int .i64 (x.wt - 1)) (fun _ => hgw 0)).set ⟨g, i * 3 + 2, none⟩ (.int .i64 (x.pl + 1)) (fun _ => hgw 0))
        have cg0 : ((w2.setCell ⟨g, i * 3 + 1, none⟩ (.int .i64 (x.wt - 1))).setCell ⟨g, i * 3 + 2, none⟩ (.int .i64 (x.pl + 1))).cell? ⟨g, i * 3, none⟩ = some (.int .u64 x.id) := by go_simp
        have cg2 : ((w2.setCell ⟨g, i * 3 + 1, none⟩ (.int .i64 (x.wt - 1))).setCell ⟨g, i * 3 + 2, none⟩ (.int .i64 (x.pl + 1))).cell? ⟨g, i * 3 + 2, none⟩ = some (.int .i64 (x.pl + 1)) := by go_simp
        have HP3 := Lib.hid hP3
        generalize (w2.setCell ⟨g, i * 3 + 1, none⟩ (.int .i64 (x.wt - 1))).setCell ⟨g, i * 3 + 2, none⟩ (.int .i64 (x.pl + 1)) = w3 at *
        clear lb fb cv cf0 cf1 cf2 hgf hP3 hgl
        obtain ⟨lb, cb, fb⟩ := HP3.out.ob.blk
        have c2 : w3.cell? ⟨b, 2, none⟩ = some (.int .i64 s.last) := cb 2
        have cz : w3.cell? ⟨b, 3 + q * 2 + 1, none⟩ = some (.int .u64 (s.Z q)) := by rw [cb, p_getZ _ _ hq]
        clear cb
        go_upto_region 14 with fail
        have hP4 := (HP3.out.hd (3 + q * 2 + 1) (.int .u64 x.id) (s' := { s with L := upd s.L q ((s.L q).set i ⟨x.id, x.wt - 1, x.pl + 1⟩), Z := upd s.Z q x.id }) (p_setZ _ V hq x.id) rfl).hd 2 (.int .i64 (q + 1)) (s' := s.serve q i x) rfl rfl
        have HP4 := Lib.hid hP4
        have HK4 := Lib.hid ((HK3.out.set ⟨b, 3 + q * 2 + 1, none⟩ (.int .u64 x.id) (fun _ => .inl rfl)).set ⟨b, 2, none⟩ (.int .i64 ((q : Int) + 1)) (fun _ => .inl rfl))
        have hgb : g ≠ b := fun e => hbg e.symm
        have cg0' : ((w3.setCell ⟨b, 3 + q * 2 + 1, none⟩ (.int .u64 x.id)).setCell ⟨b, 2, none⟩ (.int .i64 ((q : Int) + 1))).cell? ⟨g, i * 3, none⟩ = some (.int .u64 x.id) := by go_simp
        have cg2' : ((w3.setCell ⟨b, 3 + q * 2 + 1, none⟩ (.int .u64 x.id)).setCell ⟨b, 2, none⟩ (.int .i64 ((q : Int) + 1))).cell? ⟨g, i * 3 + 2, none⟩ = some (.int .i64 (x.pl + 1)) := by go_simp
        generalize (w3.setCell ⟨b, 3 + q * 2 + 1, none⟩ (.int .u64 x.id)).setCell ⟨b, 2, none⟩ (.int .i64 ((q : Int) + 1)) = w4 at *
        clear lb fb c2 cz cg0 cg2 hP4
        go_wp2_with fail
        refine wp_region_quiet_lit (by kernel_rfl) (by kernel_rfl) ?_
        try simp only [List.append]
        repeat (first | go_big_quiet_step (fail) | quiet_step (fail))
        refine wpQuiet_nil ?_
        intro W hW
        have HP5 := Lib.hid (HP4.out.keptF (kept_ex hW))
        have HK5 := Lib.hid (HK4.out.trans (kept_any (kept_ex hW)))
        clear hW cg0' cg2'
        go_wp2_with fail
        exact done (.tuple #[.int .i64 q, .int .u64 x.id, .int .i64 (x.pl + 1), .bool true]) rfl (by simp [results, Try.results10, go_sem]) (.inr ⟨k, i, x, hlt, HI.out, by rw [HQ.out]; exact HPI.out, by rw [HQ.out, List.getElem?_eq_getElem hi, HX.out], by rw [HQ.out], by rw [HQ.out]; exact ⟨V, HP5.out, HK5.out, fun _ hh => .inl hh⟩⟩)
    · obtain rfl : k = 8 := by omega
      go_wp2_with fail
      exact done (.tuple #[.int .i64 0, .int .u64 0, .int .i64 0, .bool false]) rfl (by simp [results, Try.results10, go_sem]) (.inl ⟨HI.out, rfl, HB.out⟩)
end Go.Proofs.Ytohjnplhmbfjlaa
