/- A port (chapter 13): Twice, Double. -/
import Derived.Test.YthgkminjhpaakaaPoE
namespace Go.Proofs.Ythgkminjhpaakaa
open Go.RowKit

theorem Like.nth {Y W : List It} (h : Like Y W) (j : Nat) (hj : j < Y.length) : ∃ hW : j < W.length, (Y[j]).plain = (W[j]).plain := by
  have hl := h.len
  refine ⟨by omega, ?_⟩
  unfold Like at h
  have h1 := congrArg (fun l => l[j]?) h
  simp only [List.getElem?_map] at h1
  rw [List.getElem?_eq_getElem hj, List.getElem?_eq_getElem (by omega)] at h1
  simpa using h1
theorem twice_no (b B0 : Nat) (l : Pl) (p : Pp) (k : Int) (w : World) (h : Po b B0 l p w) (hl : p.lens) (hk : k < 0 ∨ (p.waits.length : Int) ≤ k) : Calls Try.prog 48 #[.pointer (some ⟨b, 0, none⟩), .int .i64 k] w fun e w' => e = .returned (.tuple #[.int .i64 0, .bool false]) ∧ Below w.heap.size w w' := by
  have hk2 : k < 0 ∨ (0 ≤ k ∧ (p.waits.length : Int) ≤ k) := by omega
  have HP := Lib.hid h
  have HL := Lib.hid hl
  clear h hl hk
  rcases hk2 with hk | ⟨hk, hk2⟩
  · go_enter Try.func48, Try.ntmps48
    go_wp2_with fail
    go_ret2
    exact ⟨rfl, Below.refl _ _⟩
  · go_enter Try.func48, Try.ntmps48
    go_wp2_with fail
    refine (len_pt b B0 l p w HP.out HL.out).mono ?_
    rintro e w2 ⟨rfl, hm⟩
    have HB2 : Hid (Below w.heap.size w w2) := by obtain ⟨m, rfl⟩ := hm; exact Lib.hid (below_dn (Below.refl _ _))
    clear hm
    go_wp2_with fail
    go_ret2
    exact ⟨rfl, HB2.out⟩
def TwicePost (b B0 : Nat) (l : Pl) (p : Pp) (k : Nat) (hk : k < p.waits.length) (w : World) (e : Ending) (w' : World) : Prop := ∃ y r p', y.plain = (p.waits[k]).plain ∧ e = .returned (.tuple #[.int .i64 r, .bool true]) ∧ PoPost b B0 l p' w w' ∧ PutRel p y r p'
set_option maxRecDepth 100000 in
set_option maxHeartbeats 4000000 in
theorem twice_yes (b B0 : Nat) (l : Pl) (p : Pp) (N k : Nat) (w : World) (h : Po b B0 l p w) (ho : p.ok N) (hN : N ≤ 1000000) (hk : k < p.waits.length) : Calls Try.prog 48 #[.pointer (some ⟨b, 0, none⟩), .int .i64 k] w (TwicePost b B0 l p k hk w) := by
  have HP := Lib.hid h
  have HL := Lib.hid (ho.lens hN)
  have HO := Lib.hid ho
  have hkN : k ≤ 1000000 := by have := ho.len; omega
  have hk0 : ¬ (k : Int) < 0 := by omega
  clear h ho
  go_enter Try.func48, Try.ntmps48
  go_wp2_with fail
  refine (len_pt b B0 l p w HP.out HL.out).mono ?_
  rintro e w2 ⟨rfl, hm⟩
  have HB2 : Hid (Below w.heap.size w w2) := by obtain ⟨m, rfl⟩ := hm; exact Lib.hid (below_dn (Below.refl _ _))
  have P2 := Lib.hid (HP.out.below HB2.out)
  clear hm
  go_wp2_with fail
  refine (wait_pt b B0 l p w2 P2.out HL.out.1 HL.out.2 (fun x hx => (HO.out.items x hx).1)).mono ?_
  rintro e w3 ⟨v, rfl, ⟨Y, hY, hov, hd⟩, hb3⟩
  obtain ⟨av, cv, rfl, _, _⟩ := (Rd.of_own hov).form
  have P3 := Lib.hid (P2.out.below hb3)
  have B3 := Lib.hid (HB2.out.trans (hb3.mono HB2.out.size))
  have hkY : k < Y.length := by rw [hY.len]; exact hk
  obtain ⟨hW, hpl⟩ := hY.nth k hkY
  obtain ⟨g, o, hgo, hg, hc⟩ := (Rd.of_own hov).row rowIt (by decide) k hkY
  cases hgo
  have hdy := hd _ (List.getElem_mem hkY)
  generalize Y[k] = y at hc hpl hdy
  have c0 := hc 0 _ rfl
  have c1 := hc 1 _ rfl
  have c2 := hc 2 _ rfl
  have c3 := hc 3 _ rfl
  have c4 := hc 4 _ rfl
  have c5 := hc 5 _ rfl
  have c6 := hc 6 _ rfl
  have c7 := hc 7 _ rfl
  have c8 := hc 8 _ rfl
  have c9 := hc 9 _ rfl
  have c10 := hc 10 _ rfl
  rw [Nat.add_zero] at c0
  have HPL := Lib.hid hpl
  have HY := Lib.hid hY
  have hyo : y.ok := It.ok_plain hpl (HO.out.items _ (mem_waits (List.getElem_mem hk)))
  have HYO := Lib.hid hyo
  have HDY := Lib.hid (Rd.of_own hdy)
  clear hc hov hd hb3 hY hpl hyo hdy
  go_wp2_with fail
  refine (put_any b B0 l p N y w3 P3.out HDY.out HO.out hN HYO.out).mono ?_
  rintro e w4 ⟨r, p', rfl, hp, hrel⟩
  have HP4 := Lib.hid (hp.before B3.out)
  have HR := Lib.hid hrel
  clear hp hrel
  go_wp2_with fail
  go_ret2
  exact ⟨y, r, p', HPL.out, rfl, HP4.out, HR.out⟩
theorem double_no (b B0 : Nat) (l : Pl) (p : Pp) (k : Int) (w : World) (h : Po b B0 l p w) (hl : p.lens) (hk : k < 0 ∨ (p.waits.length : Int) ≤ k) : Calls Try.prog 25 #[.pointer (some ⟨b, 0, none⟩), .int .i64 k] w fun e w' => e = .returned (.bool false) ∧ Below w.heap.size w w' := by
  go_enter Try.func25, Try.ntmps25
  go_wp2_with fail
  refine (twice_no b B0 l p k w h hl hk).mono ?_
  rintro e w1 ⟨rfl, hb⟩
  go_wp2_with fail
  go_ret
  exact ⟨rfl, hb⟩
theorem double_yes (b B0 : Nat) (l : Pl) (p : Pp) (N k : Nat) (w : World) (h : Po b B0 l p w) (ho : p.ok N) (hN : N ≤ 1000000) (hk : k < p.waits.length) : Calls Try.prog 25 #[.pointer (some ⟨b, 0, none⟩), .int .i64 k] w fun e w' => ∃ y r p', y.plain = (p.waits[k]).plain ∧ e = .returned (.bool (decide (r ≠ 3))) ∧ PoPost b B0 l p' w w' ∧ PutRel p y r p' := by
  go_enter Try.func25, Try.ntmps25
  go_wp2_with fail
  refine (twice_yes b B0 l p N k w h ho hN hk).mono ?_
  rintro e w1 ⟨y, r, p', h1, rfl, h2, h3⟩
  have H1 := Lib.hid h1
  have H2 := Lib.hid h2
  have H3 := Lib.hid h3
  clear h1 h2 h3
  by_cases hr : r = 3
  · have hr2 : (r == 3) = true := beq_iff_eq.2 hr
    have HR := Lib.hid hr
    clear hr
    go_wp2_with fail
    go_ret
    exact ⟨y, r, p', H1.out, by simp [HR.out], H2.out, H3.out⟩
  · have HR := Lib.hid hr
    go_wp2_with fail
    go_ret
    exact ⟨y, r, p', H1.out, by simp [HR.out], H2.out, H3.out⟩
end Go.Proofs.Ythgkminjhpaakaa
