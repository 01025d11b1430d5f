/- A wheel (chapter 2): Cancel. -/
import Derived.Test.YtlibnjhoggfhfaaWheelQ
namespace Go.Proofs.Ytlibnjhoggfhfaa
open Go.RowKit

/-- one is taken back -/
def Wl.less (s : Wl) (id : Int) : Wl := ⟨s.most, s.now, s.last, s.l.eraseP (fun y => y.id == id)⟩
theorem erase_at {p : Du → Bool} : ∀ {l : List Du} {i : Nat}, (∃ h : i < l.length, p l[i] = true) → (∀ y ∈ l.take i, p y = false) → l.take i ++ l.drop (i + 1) = l.eraseP p ∧ l.any p = true
  | [], i, ⟨h, _⟩, _ => by simp at h
  | x :: l, 0, ⟨_, h⟩, _ => by
    have h : p x = true := h
    simp [h]
  | x :: l, i + 1, ⟨h, hp⟩, ha => by
    have hx : p x = false := ha x (by simp)
    have h1 : p (l[i]'(by simpa using h)) = true := by simpa using hp
    have ih := erase_at (p := p) (l := l) (i := i) ⟨by simpa using h, h1⟩ (fun y hy => ha y (by rw [List.take_succ_cons]; exact List.mem_cons_of_mem _ hy))
    rw [List.take_succ_cons, List.drop_succ_cons, List.eraseP_cons, hx, List.any_cons, hx, ← ih.1, ih.2]
    exact ⟨rfl, rfl⟩
theorem erase_none {p : Du → Bool} {l : List Du} (h : ∀ y ∈ l, p y = false) : l.eraseP p = l ∧ l.any p = false := by
  refine ⟨List.eraseP_of_forall_not fun y hy => by rw [h y hy]; decide, ?_⟩
  rw [List.any_eq_false]
  intro y hy
  rw [h y hy]; decide
theorem canc_dui (x : Du) (Z : Nat) (id : Int) (W : World) (hZ : Z < W.heap.size) (cZ : W.cell? ⟨Z, 0, none⟩ = some (.int .i64 id)) :
    Calls Try.prog 32 (#[.agg #[.int .i64 x.at', .int .i64 x.id, x.v]] ++ #[.pointer (some ⟨Z, 0, none⟩)]) W fun e w' => e = .returned (.bool (x.id == id)) ∧ Below W.heap.size W w' := by
  show Calls Try.prog 32 #[.agg #[.int .i64 x.at', .int .i64 x.id, x.v], .pointer (some ⟨Z, 0, none⟩)] W _
  have OX := Lib.hid (Ob.new W #[.int .i64 x.at', .int .i64 x.id, x.v] 33)
  have HB := Lib.hid ((Below.refl W.heap.size W).alloc (Nat.le_refl _) (.cells #[.int .i64 x.at', .int .i64 x.id, x.v] 33))
  have cZ1 := (HB.out.cell (p := ⟨Z, 0, none⟩) hZ).trans cZ
  have sZ := HB.out.size
  clear cZ
  go_enter Try.func32, Try.ntmps32
  go_wp2_with fail
  go_ret
  exact ⟨by simp, HB.out⟩
set_option maxRecDepth 100000 in
set_option maxHeartbeats 4000000 in
theorem cancel_dui (b B0 : Nat) (V : Value) (s : Wl) (id : Int) (w : World) (h : Wh 65 33 b B0 V s w) (ho : s.ok) :
    Calls Try.prog 14 #[.pointer (some ⟨b, 0, none⟩), .int .i64 id] w fun e w' => e = .returned (.int .i64 (if s.l.any (fun y => y.id == id) = true then 0 else 5)) ∧ WhPostS 65 33 b B0 V (s.less id) w w' := by
  have HW := Lib.hid h
  have HO := Lib.hid ho
  clear h ho
  obtain ⟨a, c, hv, _, _⟩ := (Rd.of_own HW.out.own).form
  have HV := Lib.hid hv
  clear hv
  have lbw := HW.out.ob.lt
  have HZ := Lib.hid (Ob.new w #[.int .i64 id] 3)
  have HW1 := Lib.hid (HW.out.alloc (.cells #[.int .i64 id] 3))
  have HK1 := Lib.hid ((Kept.refl (WM b V) w).alloc (.cells #[.int .i64 id] 3))
  obtain ⟨ans, HANS⟩ : ∃ ans : Int, Hid ((if s.l.any (fun y => y.id == id) = true then 0 else 5) = ans) := ⟨_, Lib.hid rfl⟩
  rw [HANS.out]
  go_enter Try.func14, Try.ntmps14
  go_upto_region 1 with fail
  generalize w.alloc (.cells #[.int .i64 id] 3) = w1 at *
  obtain ⟨lz, cz, fz⟩ := HZ.out.blk
  obtain ⟨lb, cb, fb⟩ := HW1.out.ob.blk
  have c3 : w1.cell? ⟨b, 3, none⟩ = some (.slice a s.l.length c) := by rw [cb 3, HV.out]; rfl
  clear cz cb
  have hrd := Rd.of_own HW1.out.own
  rw [HV.out] at hrd
  have hlen : s.l.length ≤ 100000 := by have := HO.out.ln; have := HO.out.a1; omega
  go_wp2_with fail
  refine (index_dui 32 #[.pointer (some ⟨w.heap.size, 0, none⟩)] (fun y => y.id == id) s.l _ _ (enters_of Try.func32 (by kernel_rfl) rfl) hrd (by omega) (fun W x hB => by
    have h1 := (HZ.out.below hB).blk
    exact canc_dui x w.heap.size id W h1.1 (h1.2.1 0))).mono ?_
  rintro e W3 ⟨hb3, hfind⟩
  have hk3 := Kept.of_below (M := fun _ => False) hb3
  have HW3 := Lib.hid (HW1.out.keptF hk3)
  have HK3 := Lib.hid (HK1.out.trans (hk3.mono (N := WM b V) fun _ _ h => h.elim))
  clear hb3 hk3 hrd c3 lz fz lb fb
  rcases hfind with ⟨rfl, hno⟩ | ⟨i, rfl, hyes, hbef⟩
  · obtain ⟨e1, e2⟩ := erase_none hno
    have H1 : Hid (s.less id = s) := Lib.hid (by unfold Wl.less; rw [e1])
    have H2 : Hid (ans = 5) := Lib.hid (by rw [← HANS.out, e2]; rfl)
    clear e1 e2 hno
    go_wp2_with fail
    go_ret
    exact ⟨by rw [H2.out]; rfl, by rw [H1.out]; exact ⟨V, HW3.out, HK3.out, fun _ hx => hx⟩⟩
  · obtain ⟨e1, e2⟩ := erase_at hyes hbef
    have hil := hyes.1
    have H1 := Lib.hid e1
    have H2 : Hid (ans = 0) := Lib.hid (by rw [← HANS.out, e2]; rfl)
    have h1r := one_du HO.out.one
    clear e1 e2 hyes hbef
    obtain ⟨lb, cb, fb⟩ := HW3.out.ob.blk
    have c3 : W3.cell? ⟨b, 3, none⟩ = some (.slice a s.l.length c) := by rw [cb 3, HV.out]; rfl
    clear cb
    have hown := HW3.out.own
    rw [HV.out] at hown
    go_wp2_with fail
    refine (del_dui B0 _ s.l.length i (i + 1) _ _ hown (by omega) (by omega) h1r).mono ?_
    rintro e w5 ⟨V5, rfl, ho5, hk5, hb5⟩
    obtain ⟨a5, c5, rfl, _, _⟩ := (Rd.of_own ho5).form
    have ob5 := Lib.hid (HW3.out.ob.kept hk5 (fun hh => HW.out.ne (by rw [HV.out]; exact hh)))
    have HK5 := Lib.hid (HK3.out.trans (hk5.mono (N := WM b V) (fun x _ hx => .inr (by rw [HV.out]; exact hx))))
    have HP := Lib.hid (wh_storeS (s' := s.less id) HW.out HK5.out ob5.out ho5 (by rw [hb5, HV.out]) (by
      show _ = (s.l.eraseP (fun y => y.id == id)).flatMap Du.row
      rw [← H1.out, List.flatMap_append, flat_take rowDu, flat_drop rowDu]) (by
      show _ = (s.l.eraseP (fun y => y.id == id)).length
      rw [← H1.out, List.length_append, List.length_take, List.length_drop]; omega))
    clear ho5 hk5 hb5 hown c3 lb fb
    obtain ⟨lb, cb, fb⟩ := ob5.out.blk
    have c35 := cb 3
    clear cb
    go_wp2_with fail
    go_ret
    have hp := HP.out
    rw [show s.l.length - (i + 1 - i) = s.l.length - 1 by omega] at hp
    exact ⟨by rw [H2.out]; rfl, hp⟩
end Go.Proofs.Ytlibnjhoggfhfaa
