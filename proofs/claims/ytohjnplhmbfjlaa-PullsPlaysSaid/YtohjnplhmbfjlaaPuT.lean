/- Who waits (chapter 18): the document's Drop. -/
import Derived.Test.YtohjnplhmbfjlaaPuS
namespace Go.Proofs.Ytohjnplhmbfjlaa
open Go.RowKit

theorem rd_firstR {w : World} {l : List Rf} {b o cap : Nat} (h : Rd w 4 (.slice (some ⟨b, o, none⟩) l.length cap) l.length (l.flatMap Rf.row)) (q : Nat) (hq : q ≤ l.length) (hc : 0 < cap) :
    Rd w 4 (.slice (some ⟨b, o, none⟩) q cap) (l.take q).length ((l.take q).flatMap Rf.row) := by
  have h1 := h.sub 0 q (Nat.zero_le _) hq
  unfold slAddr at h1
  rw [if_neg (by omega), Option.map_some, addr_add, Nat.zero_mul, Nat.add_zero, List.drop_zero, Nat.sub_zero, Nat.sub_zero, flat_take rowRf] at h1
  rw [List.length_take, Nat.min_eq_left hq]
  exact h1
theorem rd_behindR {w : World} {l : List Rf} {b o cap : Nat} (h : Rd w 4 (.slice (some ⟨b, o, none⟩) l.length cap) l.length (l.flatMap Rf.row)) (q : Nat) (hq : q ≤ l.length) :
    Rd w 4 (.slice (slAddr (some ⟨b, o, none⟩) cap q 4) (l.length - q) (cap - q)) (l.drop q).length ((l.drop q).flatMap Rf.row) := by
  have h1 := h.sub q l.length hq (Nat.le_refl _)
  rw [flat_drop rowRf] at h1
  rw [List.length_drop]
  have h2 : ((l.drop q).flatMap Rf.row).take ((l.length - q) * 4) = (l.drop q).flatMap Rf.row := List.take_of_length_le (by rw [flat_len rowRf, List.length_drop]; exact Nat.le_refl _)
  rw [h2] at h1
  exact h1
/-- the list is stored anew -/
theorem rp_store {b B0 : Nat} {V V' : Value} {s : Rs} {w w1 : World} {l' : List Rf} (h : Rp b B0 V s w) (hk : Below w.heap.size w w1) (ho : w1.ownsRow w.heap.size TRf 4 V' l'.length (l'.flatMap Rf.row)) : RpPost b B0 V { s with l := l' } w (w1.setCell ⟨b, 1, none⟩ V') := by
  have hlt := h.ob.lt
  have hne : V'.ownBlock ≠ some b := fun hh => by have := (own_lt ho b hh).1; omega
  refine ⟨V', ⟨Ob.cast ((h.ob.below hk).set 1 V') rfl, ?_, hne, h.bb⟩, (Kept.of_below hk).set _ _ (fun _ => .inl rfl), fun x hx => ?_⟩
  · have h1 := own_kept ho ((Kept.refl (Only b) w1).setO (i := 1) (v := V')) (fun y hy hh => hne (by rw [hy, show y = b from hh]))
    exact ⟨h1.1, h1.2.imp (fun h => h) (fun ⟨g, cap, cur, hv, hg, r⟩ => ⟨g, cap, cur, hv, by have := h.bb; omega, r⟩)⟩
  · rcases hx with rfl | hx
    · exact .inl (.inl rfl)
    · exact .inr (own_lt ho x hx).1
def Rs.drop (s : Rs) : Option Nat → Rs
  | .none => s
  | some i => { s with l := s.l.take i ++ s.l.drop (i + 1) }
set_option maxRecDepth 100000 in
set_option maxHeartbeats 4000000 in
theorem rdrop (b B0 : Nat) (V : Value) (s : Rs) (p id : Int) (w : World) (h : Rp b B0 V s w) (hl : s.l.length ≤ 1000000) :
    Calls Try.prog 15 #[.pointer (some ⟨b, 0, none⟩), .int .i64 p, .int .u64 id] w fun e w' => e = .returned (.int .i64 (rat s.l (s.l.findIdx? (Rf.is p id))).wt) ∧ RpPost b B0 V (s.drop (s.l.findIdx? (Rf.is p id))) w w' := by
  have HP := Lib.hid h
  obtain ⟨lb, cb, fb⟩ := h.ob.blk
  have c1 : w.cell? ⟨b, 1, none⟩ = some V := cb 1
  have HR := Lib.hid (Rd.of_own h.own)
  obtain ⟨a, c, hv, hlc, hcm⟩ := HR.out.form
  rw [hv] at c1 HR
  clear cb h hv
  go_enter Try.func15, Try.ntmps15
  go_wp2_with fail
  refine (rfind b B0 V s p id _ HP.out hl).mono ?_
  rintro e w1 ⟨rfl, rfl⟩
  cases hf : s.l.findIdx? (Rf.is p id) with
  | none =>
    have HF := Lib.hid hf
    clear hf
    simp only [optI]
    go_wp2_with fail
    go_ret
    exact ⟨by rw [HF.out]; rfl, by rw [HF.out]; exact ⟨V, HP.out, Kept.refl _ _, fun _ hh => .inl hh⟩⟩
  | some i =>
    have hlt := idx_lt hf
    obtain ⟨g, o, rfl, hg, cw⟩ := Rd.row rowRf (by decide) HR.out i hlt
    have HF := Lib.hid hf
    have HL := Lib.hid (rat_some hlt)
    obtain ⟨x, HX⟩ : ∃ x, Hid (s.l[i] = x) := ⟨_, Lib.hid rfl⟩
    rw [HX.out] at cw HL
    have cf2 := cw 2 (.int .i64 x.wt) rfl
    clear cw hf
    simp only [optI]
    go_wp2_with fail
    have nb := not_since lb
    have ng := not_since hg
    rcases (by omega : c = i + 1 ∨ i + 1 < c) with hcS | hcS
    · subst hcS
      refine wp_heads (M := (Since w.heap.size)) 19 (by kernel_rfl) (by kernel_rfl) ?_
      refine hd_quiet [true, false, true, true, true, true, true, true, false, true, true, true, true, true, true, true, false, false, false, false] (by kernel_rfl) ?_
      simp only [pickAt]
      repeat (go_big_quiet_step (fail))
      refine wpQuiet_nil ?_
      refine hd_act 1 rfl (by kernel_rfl) ?_
      refine run_want rfl ?_
      intro A hA
      go_simp
      have HO := Lib.hid (World.ownsRow_made (base := w.heap.size) (e := TRf) (size := 4) w.drew #[] 0 (by simp <;> omega) (by decide) rfl)
      have RT0 := Rd.alloc (w := w.drew) (rd_firstR HR.out i (by omega) (by omega)) (.cells #[] TRf)
      rw [List.length_take, Nat.min_eq_left (by omega)] at RT0
      have RT := Lib.hid RT0
      clear RT0
      refine hA _ _ (((Kept.refl _ _).alloc _)) ?_
      try simp only [Act.put, List.setIfInBounds_toArray, List.set_cons_zero, List.set_cons_succ]
      clear A hA
      refine hd_quiet [false, false, false, false, false, false, false, false, false, false, false, false, false, false, false, false, false, false, false, false] (by kernel_rfl) ?_
      simp only [pickAt]
      repeat (go_big_quiet_step (fail))
      refine wpQuiet_nil ?_
      refine hd_act 8 rfl (by kernel_rfl) ?_
      refine run_want rfl ?_
      intro A hA
      refine wp_appS (.tmp 24) (.tmp 30) 36 (by rfl) info_rf Try.underlying36 rfl (by decide) HO.out RT.out (by rfl) (by rfl) (one_rf _) (by omega) (by simp <;> omega) ?_
      intro v8 w8 ho8 hg8
      have HB8 : Hid (Below w.heap.size w.drew w8) := Lib.hid (((Below.refl w.heap.size w.drew).alloc (by simp <;> omega) (.cells #[] TRf)).grown hg8 (by simp <;> omega) (fun y hy => (HO.out.lt y hy).1))
      have hs8 : w.heap.size ≤ w8.heap.size := HB8.out.size
      have HO8 := Lib.hid ho8
      refine hA _ _ (Kept.of_grown (M := Since w.heap.size) hg8 fun y hy => (HO.out.lt y hy).1) ?_
      try simp only [Act.put, List.setIfInBounds_toArray, List.set_cons_zero, List.set_cons_succ]
      clear A hA
      clear ho8 hg8
      have hlq : s.l.length - (i + 1) = 0 := by omega
      have hdq : s.l.drop (i + 1) = [] := List.drop_of_length_le (by omega)
      have RD : Hid (Rd w8 4 (.slice (some ⟨g, o, none⟩) 0 0) 0 ([] : List Value)) := Lib.hid (by
        have h9 := Rd.below (w := w.drew) (rd_behindR HR.out (i + 1) (by omega)) HB8.out
        rw [hdq, hlq] at h9
        simpa [slAddr] using h9)
      refine hd_quiet [false, false, false, false, false, false, false, false, false, false, false, false, false, false, false, false, false, false, false, false] (by kernel_rfl) ?_
      simp only [pickAt]
      repeat (go_big_quiet_step (fail))
      refine wpQuiet_nil ?_
      refine hd_act 16 rfl (by kernel_rfl) ?_
      refine run_want rfl ?_
      intro A hA
      refine wp_appS (.tmp 31) (.tmp 38) 36 (by rfl) info_rf Try.underlying36 rfl (by decide) HO8.out RD.out (by rfl) (by rfl) (fun u hu => (by cases hu)) (by omega) (by first | exact hs8 | (simp; omega)) ?_
      intro v9 w9 ho9 hg9
      obtain ⟨av, cv, rfl, _, _⟩ := (Rd.of_own ho9).form
      have HB9 : Hid (Below w.heap.size w.drew w9) := Lib.hid (HB8.out.grown hg9 (by first | exact hs8 | (simp; omega)) (fun y hy => (HO8.out.lt y hy).1))
      have HO9 := Lib.hid ho9
      refine hA _ _ (Kept.of_grown (M := Since w.heap.size) hg9 fun y hy => (HO8.out.lt y hy).1) ?_
      try simp only [Act.put, List.setIfInBounds_toArray, List.set_cons_zero, List.set_cons_succ]
      clear A hA
      clear ho9 hg9
      refine hd_quiet [false, false, false, false, false, false, false, false, false, false, false, false, false, false, false, false, false, false, false, false] (by kernel_rfl) ?_
      simp only [pickAt]
      repeat (go_big_quiet_step (fail))
      refine wpQuiet_nil ?_
      refine hd_quiet [false, false, false, false, false, false, false, false, false, false, false, false, false, false, false, false, false, true, true, false] (by kernel_rfl) ?_
      simp only [pickAt]
      repeat (go_big_quiet_step (fail))
      refine wpQuiet_nil ?_
      have hob9 := HP.out.ob.below ((Below.refl w.heap.size w).drew.trans HB9.out)
      obtain ⟨l9, c9, f9⟩ := hob9.blk
      have cp9 : w9.cell? ⟨b, 1, none⟩ = some V := c9 1
      have HPO : Hid (RpPost b B0 V (s.drop (some i)) w (w9.setCell ⟨b, 1, none⟩ (.slice av (i + 0) cv))) := Lib.hid (by
        refine rp_store HP.out ((Below.refl w.heap.size w).drew.trans HB9.out) ?_
        have h9 := HO9.out
        rw [List.length_append, List.length_take, List.length_drop, Nat.min_eq_left (by omega), List.flatMap_append, hdq]
        rw [show i + (s.l.length - (i + 1)) = i + 0 by omega]
        simpa using h9)
      clear c9 hob9
      refine hd_tail rfl (by kernel_rfl) ?_
      simp only [List.drop_succ_cons, List.drop_zero]
      go_wp2_with fail
      refine NoPanic.normal ?_
      go_wp2_with fail
      go_ret
      exact ⟨by rw [HF.out, HL.out]; rfl, by rw [HF.out]; exact HPO.out⟩
    · have hcn : c ≠ i + 1 := by omega
      refine wp_heads (M := (Since w.heap.size)) 19 (by kernel_rfl) (by kernel_rfl) ?_
      refine hd_quiet [true, false, true, true, true, true, true, true, false, true, true, true, true, true, true, true, false, false, false, false] (by kernel_rfl) ?_
      simp only [pickAt]
      repeat (go_big_quiet_step (fail))
      refine wpQuiet_nil ?_
      refine hd_act 1 rfl (by kernel_rfl) ?_
      refine run_want rfl ?_
      intro A hA
      go_simp
      have HO := Lib.hid (World.ownsRow_made (base := w.heap.size) (e := TRf) (size := 4) w.drew #[] 0 (by simp <;> omega) (by decide) rfl)
      have RT0 := Rd.alloc (w := w.drew) (rd_firstR HR.out i (by omega) (by omega)) (.cells #[] TRf)
      rw [List.length_take, Nat.min_eq_left (by omega)] at RT0
      have RT := Lib.hid RT0
      clear RT0
      refine hA _ _ (((Kept.refl _ _).alloc _)) ?_
      try simp only [Act.put, List.setIfInBounds_toArray, List.set_cons_zero, List.set_cons_succ]
      clear A hA
      refine hd_quiet [false, false, false, false, false, false, false, false, false, false, false, false, false, false, false, false, false, false, false, false] (by kernel_rfl) ?_
      simp only [pickAt]
      repeat (go_big_quiet_step (fail))
      refine wpQuiet_nil ?_
      refine hd_act 8 rfl (by kernel_rfl) ?_
      refine run_want rfl ?_
      intro A hA
      refine wp_appS (.tmp 24) (.tmp 30) 36 (by rfl) info_rf Try.underlying36 rfl (by decide) HO.out RT.out (by rfl) (by rfl) (one_rf _) (by omega) (by simp <;> omega) ?_
      intro v8 w8 ho8 hg8
      have HB8 : Hid (Below w.heap.size w.drew w8) := Lib.hid (((Below.refl w.heap.size w.drew).alloc (by simp <;> omega) (.cells #[] TRf)).grown hg8 (by simp <;> omega) (fun y hy => (HO.out.lt y hy).1))
      have hs8 : w.heap.size ≤ w8.heap.size := HB8.out.size
      have HO8 := Lib.hid ho8
      refine hA _ _ (Kept.of_grown (M := Since w.heap.size) hg8 fun y hy => (HO.out.lt y hy).1) ?_
      try simp only [Act.put, List.setIfInBounds_toArray, List.set_cons_zero, List.set_cons_succ]
      clear A hA
      clear ho8 hg8
      have RD : Hid (Rd w8 4 (.slice (some ⟨g, o + (i + 1) * 4, none⟩) (s.l.length - (i + 1)) (c - (i + 1))) (s.l.length - (i + 1)) ((s.l.drop (i + 1)).flatMap Rf.row)) := Lib.hid (by
        have h9 := Rd.below (w := w.drew) (rd_behindR HR.out (i + 1) (by omega)) HB8.out
        rw [List.length_drop] at h9
        simpa [slAddr, hcn, addr_add] using h9)
      refine hd_quiet [false, false, false, false, false, false, false, false, false, false, false, false, false, false, false, false, false, false, false, false] (by kernel_rfl) ?_
      simp only [pickAt]
      repeat (go_big_quiet_step (fail))
      refine wpQuiet_nil ?_
      refine hd_act 16 rfl (by kernel_rfl) ?_
      refine run_want rfl ?_
      intro A hA
      refine wp_appS (.tmp 31) (.tmp 38) 36 (by rfl) info_rf Try.underlying36 rfl (by decide) HO8.out RD.out (by rfl) (by first | rfl | simp [Act.eval, hcn, addr_add]) (one_rf _) (by omega) (by first | exact hs8 | (simp; omega)) ?_
      intro v9 w9 ho9 hg9
      obtain ⟨av, cv, rfl, _, _⟩ := (Rd.of_own ho9).form
      have HB9 : Hid (Below w.heap.size w.drew w9) := Lib.hid (HB8.out.grown hg9 (by first | exact hs8 | (simp; omega)) (fun y hy => (HO8.out.lt y hy).1))
      have HO9 := Lib.hid ho9
      refine hA _ _ (Kept.of_grown (M := Since w.heap.size) hg9 fun y hy => (HO8.out.lt y hy).1) ?_
      try simp only [Act.put, List.setIfInBounds_toArray, List.set_cons_zero, List.set_cons_succ]
      clear A hA
      clear ho9 hg9
      refine hd_quiet [false, false, false, false, false, false, false, false, false, false, false, false, false, false, false, false, false, false, false, false] (by kernel_rfl) ?_
      simp only [pickAt]
      repeat (go_big_quiet_step (fail))
      refine wpQuiet_nil ?_
      refine hd_quiet [false, false, false, false, false, false, false, false, false, false, false, false, false, false, false, false, false, true, true, false] (by kernel_rfl) ?_
      simp only [pickAt]
      repeat (go_big_quiet_step (fail))
      refine wpQuiet_nil ?_
      have hob9 := HP.out.ob.below ((Below.refl w.heap.size w).drew.trans HB9.out)
      obtain ⟨l9, c9, f9⟩ := hob9.blk
      have cp9 : w9.cell? ⟨b, 1, none⟩ = some V := c9 1
      have HPO : Hid (RpPost b B0 V (s.drop (some i)) w (w9.setCell ⟨b, 1, none⟩ (.slice av (i + (s.l.length - (i + 1))) cv))) := Lib.hid (by
        refine rp_store HP.out ((Below.refl w.heap.size w).drew.trans HB9.out) ?_
        have h9 := HO9.out
        rw [List.length_append, List.length_take, List.length_drop, Nat.min_eq_left (by omega), List.flatMap_append]
        simpa using h9)
      clear c9 hob9
      refine hd_tail rfl (by kernel_rfl) ?_
      simp only [List.drop_succ_cons, List.drop_zero]
      go_wp2_with fail
      refine NoPanic.normal ?_
      go_wp2_with fail
      go_ret
      exact ⟨by rw [HF.out, HL.out]; rfl, by rw [HF.out]; exact HPO.out⟩
end Go.Proofs.Ytohjnplhmbfjlaa
