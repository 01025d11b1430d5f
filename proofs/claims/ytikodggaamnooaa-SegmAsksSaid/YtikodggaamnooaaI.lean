/- The comparison of two lists of ranges; the law SegmAsks, walked. -/
import Derived.Test.YtikodggaamnooaaH
import Derived.Deep.RegionHeld3
namespace Go.Proofs.Ytikodggaamnooaa
open Go.RowKit

theorem rowOf_len (l : List (Int × Int)) : (rowOf l).length = l.length * 2 := flat_len (k := 2) (fun _ => rfl) l

set_option maxHeartbeats 400000 in
theorem ranges_eq (va vb : Value) (l : List (Int × Int)) (w : World) (ha : Rd w 2 va l.length (rowOf l)) (hb : Rd w 2 vb l.length (rowOf l)) : Calls Try.prog 16 #[va, vb] w fun e w' => e = .returned (.bool true) ∧ ∃ n, w' = w.drewN n := by
  rcases Nat.eq_zero_or_pos l.length with h0 | h0
  · obtain ⟨a, ca, rfl, _, _⟩ := ha.form
    obtain ⟨b, cb, rfl, _, _⟩ := hb.form
    rw [h0]
    clear ha hb h0
    go_enter Try.func16, Try.ntmps16
    go_wp2_with fail
    go_loopw [5] (fun x wr => x = .int .i64 0 ∧ wr = w) (fun x _ => 0)
    case atStart => exact ⟨rfl, rfl⟩
    case round =>
      obtain ⟨rfl, rfl⟩ := hrel
      go_wp2
      go_ret
      exact ⟨rfl, 0, rfl⟩
  · have hlen := ha.maxLen
    obtain ⟨b, o, ca, rfl, h1, h2, h3, h4⟩ := ha.some h0 (by decide)
    obtain ⟨b', o', ca', rfl, k1, k2, k3, k4⟩ := hb.some h0 (by decide)
    have H4 := Lib.hid h4
    have K4 := Lib.hid k4
    clear ha hb h4 k4
    go_enter Try.func16, Try.ntmps16
    go_wp2_with fail
    go_loopw [5] (fun x wr => ∃ i : Nat, x = .int .i64 i ∧ i ≤ l.length ∧ ∃ n, wr = w.drewN n) (fun x _ => l.length - (intOf x).toNat)
    case atStart => exact ⟨0, rfl, by omega, 0, rfl⟩
    case round =>
      obtain ⟨i, rfl, hi, nq, rfl⟩ := hrel
      by_cases hlt : i < l.length
      · obtain ⟨q, hq⟩ : ∃ q, l[i]? = some q := ⟨l[i], by simp [hlt]⟩
        obtain ⟨r1, r2⟩ := rowOf_get l i q hq
        have g1 := H4.out _ _ r1
        have g2 := H4.out _ _ r2
        have g3 := K4.out _ _ r1
        have g4 := K4.out _ _ r2
        rw [← Nat.add_assoc] at g2 g4
        clear hq r1 r2
        go_wp2_with fail
        go_quiet (fail)
        go_wp2_with fail
        go_roundw
        case rel => exact ⟨i + 1, by go_num, by omega, _, rfl⟩
        case measure => simp [intOf]; omega
      · go_wp2
        go_ret
        exact ⟨rfl, nq, rfl⟩

end Go.Proofs.Ytikodggaamnooaa
