/- What a host gets (chapter 20): Retire and Poll. -/
import Derived.Test.YtgfkgbampoocdaaGreatDoorTbG
import Derived.Test.YtgfkgbampoocdaaGreatDoorIds2
namespace Go.Proofs.YtgfkgbampoocdaaGreatDoor
open Go.RowKit

theorem Rv.window {r : Rs} {B : Nat} {V V' : Value} {S S' : Wd} {k3 : Int} {on : Option (Int × Value)} {out : Value} {n : Nat} {xs : List Value} {w w' : World} (h : Rv r B V S k3 on out n xs w) (hw : Wi r.m B V' S' w') (hk : Kept (WM r.m V) w w') : Rv r B V' S' k3 on out n xs w' := by
  obtain ⟨_, ⟨b1, b2, b3⟩, _, _, _, d4⟩ := h.apart
  exact ⟨h.ob.kept hk b1, h.tb.kept hk b2 b3, hw, own_kept h.ou hk (fun y hy hh => d4 y hh hy), h.bR, h.bt, h.bs⟩
set_option maxRecDepth 100000 in
theorem retire_rv (r : Rs) (B : Nat) (V : Value) (S : Wd) (out : Value) (n : Nat) (xs : List Value) (id : Int) (w : World) (h : Rv r B V S 0 none out n xs w) (ho : S.ok) (hid : 0 ≤ id) : Calls Tryz.prog 9 #[.pointer (some ⟨r.R, 0, none⟩), .int .i64 3, .int .u64 id] w fun e w' => e = .returned (.int .i64 0) ∧ ∃ V', Rv r B V' (S.goes (min id 1152921504606846977)) 0 none out n xs w' ∧ Kept (WM r.m V) w w' ∧ ∀ y, WM r.m V' y → WM r.m V y ∨ w.heap.size ≤ y := by
  obtain ⟨lb, cb, fb⟩ := h.ob.blk
  have c5 : w.cell? ⟨r.R, 5, none⟩ = some (.pointer (some ⟨r.m, 0, none⟩)) := cb 5
  have HR := Lib.hid h
  have HO := Lib.hid ho
  clear cb h ho
  go_enter Tryz.func9, Tryz.ntmps9
  go_wp2_with fail
  refine (has3 r B V S 0 none out n xs _ HR.out).mono ?_
  rintro e w1 ⟨rfl, rfl⟩
  go_wp2_with fail
  refine (retire_any r.m B V S id _ HR.out.wi HO.out hid).mono ?_
  rintro e w1 ⟨rfl, V', hw1, hk1, hn1⟩
  have HR1 := Lib.hid (HR.out.window hw1 hk1)
  have HK1 := Lib.hid hk1
  have HN1 := Lib.hid hn1
  clear hw1 hk1 hn1 c5 lb fb
  obtain ⟨lb, cb, fb⟩ := HR1.out.ob.blk
  have c1 : w1.cell? ⟨r.R, 1, none⟩ = some (.pointer (some ⟨r.t, 0, none⟩)) := cb 1
  clear cb
  go_wp2_with fail
  refine (keys_none r.t r.s _ HR1.out.tb).mono ?_
  rintro e w2 ⟨rfl, hk2⟩
  have HR2 := Lib.hid (HR1.out.keptF hk2)
  have HK2 := Lib.hid (HK1.out.trans (hk2.mono fun _ _ h => h.elim))
  clear hk2 c1 lb fb
  go_wp2_with fail
  go_loopw [6, 27] (fun c i wr => c = .int .i64 0 ∧ i = .int .i64 0 ∧ wr = w2) (fun _ _ _ => 0)
  case atStart => exact ⟨rfl, rfl, rfl⟩
  case round =>
    obtain ⟨rfl, rfl, rfl⟩ := hrel
    go_wp2_with fail
    go_ret
    exact ⟨rfl, V', HR2.out, HK2.out, HN1.out⟩
end Go.Proofs.YtgfkgbampoocdaaGreatDoor
