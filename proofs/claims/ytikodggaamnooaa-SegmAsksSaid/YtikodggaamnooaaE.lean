/- Contracts of segm: bytes of a range, the place of a byte. -/
import Derived.Test.YtikodggaamnooaaB
namespace Go.Proofs.Ytikodggaamnooaa
open Go.RowKit

theorem info5 : (Try.prog.info? 5).map (fun i => (i.zero, i.size, i.bytes)) = some (some (.int .u8 0), 1, 1) := by kernel_rfl

def OwnBytes (l : List UInt8) (w : World) (e : Ending) (w' : World) : Prop :=
  ∃ v, e = .returned v ∧ w'.ownsRow w.heap.size 5 1 v l.length (bcells l) ∧ Below w.heap.size w w'

set_option maxHeartbeats 400000 in
theorem clone_any (a : Addr) (cap : Nat) (l : List UInt8) (w : World) (h : Rd w 1 (.slice (some a) l.length cap) l.length (bcells l)) (hl : l.length ≤ 100000) :
    Calls Try.prog 18 #[.slice (some a) l.length cap] w (OwnBytes l w) := by
  go_enter Try.func18, Try.ntmps18
  go_wp2_with (at_builtin; refine wpList_appS rfl _ _ 28 rfl info5 Try.underlying28 rfl (by decide) (World.ownsRow_made (e := 5) (size := 1) w #[] 0 (Nat.le_refl _) (by decide) rfl) (h.alloc _) rfl rfl (bcells_one l) (by omega) (by simp) ?_)
  intro v1 w1 ho hg
  have hB := ((Below.refl w.heap.size w).alloc (Nat.le_refl _) (.cells #[] 5)).grown hg (by simp) (by intro k hk; simp [Value.ownBlock] at hk; omega)
  clear hg
  go_wp2
  go_ret
  exact ⟨_, rfl, ho, hB⟩

def subB (l : List UInt8) (F T : Int) : List UInt8 := if max F 0 < min T l.length then (l.drop (max F 0).toNat).take ((min T l.length).toNat - (max F 0).toNat) else []
theorem subB_len (l : List UInt8) (F T : Int) : (subB l F T).length = (min T l.length - max F 0).toNat := by
  unfold subB; split
  · rw [List.length_take, List.length_drop]; omega
  · simp; omega

set_option maxHeartbeats 400000 in
theorem bytes_any (v : Value) (l : List UInt8) (F T : Int) (w : World) (h : Rd w 1 v l.length (bcells l)) (hl : l.length ≤ 100000) :
    Calls Try.prog 10 #[v, .agg #[.int .i64 F, .int .i64 T]] w (OwnBytes (subB l F T) w) := by
  obtain ⟨a, cap, rfl, h1, h2⟩ := h.form
  by_cases hlt : max F 0 < min T l.length
  · have hsub : subB l F T = (l.drop (max F 0).toNat).take ((min T l.length).toNat - (max F 0).toNat) := by unfold subB; rw [if_pos hlt]
    have hlen := subB_len l F T
    have hr := (h.alloc (.cells #[.int .i64 F, .int .i64 T] 23)).sub (max F 0).toNat (min T l.length).toNat (by omega) (by omega)
    rw [bcells_sub, ← hsub] at hr
    have ha : ∃ b, slAddr a cap (max F 0).toNat 1 = some b := by
      rcases h with ⟨h0, h3, h4⟩ | ⟨b, c, h0, _⟩
      · omega
      · cases h0; unfold slAddr; split <;> simp
    obtain ⟨b, hb⟩ := ha
    have HL := Lib.hid hlen
    have HR := Lib.hid hr
    have HB := Lib.hid hb
    clear hsub hlen hr hb h
    go_enter Try.func10, Try.ntmps10
    go_wp2_with fail
    go_quiet (fail)
    go_wp2_with (refine wpList_sl2 rfl _ _ _ _ rfl Try.underlying28 info5 rfl rfl rfl (by omega) ?_)
    rw [HB.out]
    have HR2 := HR.out
    rw [HB.out, ← show (subB l F T).length = (min T l.length).toNat - (max F 0).toNat by rw [HL.out]; omega] at HR2
    rw [show (min T l.length).toNat - (max F 0).toNat = (subB l F T).length by rw [HL.out]; omega]
    refine (clone_any _ _ _ _ HR2.dn (by rw [HL.out]; omega)).mono ?_
    rintro e w1 ⟨v, rfl, ho, hb⟩
    go_wp2
    go_ret
    exact ⟨_, rfl, ownsRow_mono ho (by simp), (below_dn ((Below.refl _ _).alloc (Nat.le_refl _) _)).trans (hb.mono (by simp))⟩
  · have hsub : subB l F T = [] := by unfold subB; rw [if_neg hlt]
    rw [hsub]
    clear hsub
    go_enter Try.func10, Try.ntmps10
    go_wp2_with fail
    go_quiet (fail)
    go_wp2_with fail
    go_ret
    exact ⟨_, rfl, World.ownsRow_nil _ _ _ _, below_dn ((Below.refl _ _).alloc (Nat.le_refl _) _)⟩

def atV (t m o : Int) : Int := if count t m = 0 ∨ o < 0 ∨ max t 1 ≤ o then -1 else o / m

set_option maxHeartbeats 400000 in
theorem at_any (t m o : Int) (w : World) (ho : o ≤ 9223372036854775807) : Calls Try.prog 11 #[.int .i64 t, .int .i64 m, .int .i64 o] w fun e w' => e = .returned (.int .i64 (atV t m o)) ∧ w = w' := by
  obtain ⟨d0, d1, d2⟩ := count_le t m
  by_cases hc : count t m = 0
  · have hfin := Lib.hid (show atV t m o = -1 by unfold atV; rw [if_pos (.inl hc)])
    have hb : (count t m == 0) = true := by simpa using hc
    have HC := Lib.hid hc
    clear d2 hc
    go_enter Try.func11, Try.ntmps11
    go_wp2_with (go_at_call 8; refine (count_any _ _ _).mono ?_; rintro e w' ⟨rfl, rfl⟩)
    go_ret
    exact ⟨by rw [hfin.out]; rfl, rfl⟩
  · obtain ⟨c1, c2, c3, c4, c5⟩ := d2 (by omega)
    have hb : (count t m == 0) = false := by simpa using hc
    clear d2 c5
    by_cases ho0 : o < 0
    · have hfin := Lib.hid (show atV t m o = -1 by unfold atV; rw [if_pos (.inr (.inl ho0))])
      go_enter Try.func11, Try.ntmps11
      go_wp2_with (go_at_call 8; refine (count_any _ _ _).mono ?_; rintro e w' ⟨rfl, rfl⟩)
      go_ret
      exact ⟨by rw [hfin.out]; rfl, rfl⟩
    by_cases ho1 : max t 1 ≤ o
    · have hfin := Lib.hid (show atV t m o = -1 by unfold atV; rw [if_pos (.inr (.inr ho1))])
      go_enter Try.func11, Try.ntmps11
      go_wp2_with (go_at_call 8; refine (count_any _ _ _).mono ?_; rintro e w' ⟨rfl, rfl⟩)
      go_ret
      exact ⟨by rw [hfin.out]; rfl, rfl⟩
    · have hfin := Lib.hid (show atV t m o = o / m by unfold atV; rw [if_neg (by omega)])
      go_enter Try.func11, Try.ntmps11
      go_wp2_with (go_at_call 8; refine (count_any _ _ _).mono ?_; rintro e w' ⟨rfl, rfl⟩)
      go_ret
      exact ⟨by rw [hfin.out]; rfl, rfl⟩

set_option maxHeartbeats 400000 in
theorem at_ref (t m o : Int) (w : World) (ho : o ≤ 9223372036854775807) : Calls Try.prog 14 #[.int .i64 t, .int .i64 m, .int .i64 o] w fun e w' => e = .returned (.int .i64 (atV t m o)) ∧ w = w' := by
  obtain ⟨d0, d1, d2⟩ := count_le t m
  by_cases hc : count t m = 0
  · have hfin := Lib.hid (show atV t m o = -1 by unfold atV; rw [if_pos (.inl hc)])
    have hb : (count t m == 0) = true := by simpa using hc
    have HC := Lib.hid hc
    clear d2 hc
    go_enter Try.func14, Try.ntmps14
    go_wp2_with (go_at_call 13; refine (count_ref _ _ _).mono ?_; rintro e w' ⟨rfl, rfl⟩)
    go_ret
    exact ⟨by rw [hfin.out]; rfl, rfl⟩
  · obtain ⟨c1, c2, c3, c4, c5⟩ := d2 (by omega)
    have hb : (count t m == 0) = false := by simpa using hc
    clear d2 c5
    by_cases ho0 : o < 0
    · have hfin := Lib.hid (show atV t m o = -1 by unfold atV; rw [if_pos (.inr (.inl ho0))])
      go_enter Try.func14, Try.ntmps14
      go_wp2_with (go_at_call 13; refine (count_ref _ _ _).mono ?_; rintro e w' ⟨rfl, rfl⟩)
      go_ret
      exact ⟨by rw [hfin.out]; rfl, rfl⟩
    by_cases ho1 : max t 1 ≤ o
    · have hfin := Lib.hid (show atV t m o = -1 by unfold atV; rw [if_pos (.inr (.inr ho1))])
      go_enter Try.func14, Try.ntmps14
      go_wp2_with (go_at_call 13; refine (count_ref _ _ _).mono ?_; rintro e w' ⟨rfl, rfl⟩)
      go_ret
      exact ⟨by rw [hfin.out]; rfl, rfl⟩
    · have hfin := Lib.hid (show atV t m o = o / m by unfold atV; rw [if_neg (by omega)])
      go_enter Try.func14, Try.ntmps14
      go_wp2_with (go_at_call 13; refine (count_ref _ _ _).mono ?_; rintro e w' ⟨rfl, rfl⟩)
      go_ret
      exact ⟨by rw [hfin.out]; rfl, rfl⟩

set_option maxHeartbeats 400000 in
theorem bytes_ref (v : Value) (l : List UInt8) (F T : Int) (w : World) (h : Rd w 1 v l.length (bcells l)) (hl : l.length ≤ 100000) :
    Calls Try.prog 15 #[v, .agg #[.int .i64 F, .int .i64 T]] w fun e w' => ∃ v', e = .returned v' ∧ Rd w' 1 v' (subB l F T).length (bcells (subB l F T)) ∧ Below w.heap.size w w' := by
  obtain ⟨a, cap, rfl, h1, h2⟩ := h.form
  by_cases hlt : max F 0 < min T l.length
  · have hsub : subB l F T = (l.drop (max F 0).toNat).take ((min T l.length).toNat - (max F 0).toNat) := by unfold subB; rw [if_pos hlt]
    have hlen := subB_len l F T
    have hr := (h.alloc (.cells #[.int .i64 F, .int .i64 T] 23)).sub (max F 0).toNat (min T l.length).toNat (by omega) (by omega)
    rw [bcells_sub, ← hsub] at hr
    have HL := Lib.hid hlen
    have HR := Lib.hid hr
    clear hsub hlen hr h
    go_enter Try.func15, Try.ntmps15
    go_wp2_with fail
    go_quiet (fail)
    go_wp2_with (refine wpList_sl2 rfl _ _ _ _ rfl Try.underlying28 info5 rfl rfl rfl (by omega) ?_)
    go_ret
    refine ⟨_, rfl, ?_, below_dn ((Below.refl _ _).alloc (Nat.le_refl _) _)⟩
    have HR2 := HR.out.dn (m := nq)
    rw [show (min T l.length).toNat - (max F 0).toNat = (subB l F T).length by rw [HL.out]; omega] at HR2
    rw [← show (min T l.length).toNat - (max F 0).toNat = (subB l F T).length by rw [HL.out]; omega] at HR2 ⊢
    exact HR2
  · have hsub : subB l F T = [] := by unfold subB; rw [if_neg hlt]
    rw [hsub]
    clear hsub
    go_enter Try.func15, Try.ntmps15
    go_wp2_with fail
    go_quiet (fail)
    go_wp2_with fail
    go_ret
    exact ⟨_, rfl, Rd.nil _ _, below_dn ((Below.refl _ _).alloc (Nat.le_refl _) _)⟩

end Go.Proofs.Ytikodggaamnooaa
