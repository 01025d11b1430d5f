/- The document's port (chapter 13): what waits; Take. -/
import Derived.Test.YthgkminjhpaakaaPoRe
namespace Go.Proofs.Ythgkminjhpaakaa
open Go.RowKit

def Mp.waits (t : Mp) : List It := wfrom t.L 8 ++ t.C
def MWait (t : Mp) (w : World) (e : Ending) (w' : World) : Prop := ∃ v, e = .returned v ∧ w'.ownsRow w.heap.size TX 11 v t.waits.length (t.waits.flatMap It.row) ∧ Below w.heap.size w w'
set_option maxRecDepth 100000 in
set_option maxHeartbeats 4000000 in
theorem mwait (m : Nat) (U : Nat → Value) (uc : Value) (t : Mp) (N : Nat) (w : World) (h : Mo m U uc t w) (ho : t.ok N) (hN : N ≤ 100000) : Calls Try.prog 24 #[.pointer (some ⟨m, 0, none⟩)] w (MWait t w) := by
  have HM := Lib.hid h
  have HO := Lib.hid ho
  have HLE := Lib.hid (wfrom_len t.L N ho.len)
  have hcl := ho.clen
  clear h ho
  go_enter Try.func24, Try.ntmps24
  go_wp2_with fail
  go_loopw [3, 4] (fun l k wr => ∃ r : Nat, r ≤ 8 ∧ k = .int .i64 (7 - r) ∧ wr.ownsRow w.heap.size TX 11 l (wfrom t.L r).length ((wfrom t.L r).flatMap It.row) ∧ Below w.heap.size w wr) (fun _ k _ => (intOf k + 1).toNat)
  case atStart => exact ⟨0, by omega, rfl, World.ownsRow_nil _ _ _ _, Below.refl _ _⟩
  case round =>
    obtain ⟨r, hr, rfl, ho, hb⟩ := hrel
    obtain ⟨ao, co, rfl, _, _⟩ := (Rd.of_own ho).form
    have HOW := Lib.hid ho
    have HB := Lib.hid hb
    have sw := hb.size
    clear ho hb
    rename World => wk
    have M2 := Lib.hid (HM.out.below HB.out)
    have lm := M2.out.ob.lt
    have hle : (wfrom t.L r).length ≤ 800000 := by
      have h1 := HLE.out r hr
      have : r * N ≤ 8 * 100000 := Nat.mul_le_mul hr hN
      omega
    by_cases h8 : r < 8
    · obtain ⟨q, hq⟩ : ∃ q : Nat, q = 7 - r := ⟨_, rfl⟩
      have hq8 : q < 8 := by omega
      have hqi : (7 : Int) - r = q := by omega
      have hlq := HO.out.len q hq8
      have HQ := Lib.hid hq
      have HQI := Lib.hid hqi
      rw [hqi]
      clear hq hqi
      obtain ⟨a, c, hv, hlc, hcm⟩ := (M2.out.lines q hq8).form
      have cl : wk.cell? ⟨m, 3 + q, none⟩ = some (.slice a (t.L q).length c) := by rw [M2.out.line hq8, hv]
      have hrd := (M2.out.lines q hq8).rd
      rw [hv] at hrd
      have HR := Lib.hid hrd
      clear hv hrd
      go_wp2_with (at_builtin; refine wpList_appAt rfl (.tmp 9) (.tmp 15) 57 rfl info_x Try.underlying57 rfl (by decide) HOW.out HR.out rfl rfl (one_itrows _) (by omega) sw ?_; intro v' w' ho' hg' hf')
      have hb' := grown_below HOW.out hg' sw
      go_roundw
      case rel =>
        refine ⟨r + 1, by omega, by have := HQI.out; congr 1; push_cast; omega, ?_, HB.out.trans hb'⟩
        have h2 : wfrom t.L (r + 1) = wfrom t.L r ++ t.L q := by rw [wfrom, HQ.out]
        rw [h2, List.length_append, List.flatMap_append]
        exact ho'
      case measure => simp [intOf]
    · obtain rfl : r = 8 := by omega
      rw [show (7 : Int) - ((8 : Nat) : Int) = -1 from rfl]
      obtain ⟨a, c, hv, hlc, hcm⟩ := M2.out.cr.form
      have cl : wk.cell? ⟨m, 11, none⟩ = some (.slice a t.C.length c) := by rw [← hv]; exact (M2.out.ob.blk).2.1 11
      have hrd := M2.out.cr.rd
      rw [hv] at hrd
      have HR := Lib.hid hrd
      clear hv hrd
      go_wp2_with (at_builtin; refine wpList_appAt rfl (.tmp 17) (.tmp 21) 57 rfl info_x Try.underlying57 rfl (by decide) HOW.out HR.out rfl rfl (one_itrows _) (by omega) sw ?_; intro v' w' ho' hg' hf')
      have hb' := grown_below HOW.out hg' sw
      go_ret
      refine ⟨v', rfl, ?_, HB.out.trans hb'⟩
      unfold Mp.waits
      rw [List.length_append, List.flatMap_append]
      exact ho'
end Go.Proofs.Ythgkminjhpaakaa
