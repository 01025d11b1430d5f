/- The fabric (chapter 15): steps; are they looked at? -/
import Derived.Test.YtoihhidoafgoaaaFaY
import Derived.Test.YtoihhidoafgoaaaMJ
import Derived.Test.YtoihhidoafgoaaaAlike
namespace Go.Proofs.Ytoihhidoafgoaaa
open Go.RowKit

/-- a step: what, where, a frame and its number (the item's path) -/
structure Fst where
  k : Int
  a : Int
  x : It
def Fst.row (s : Fst) : List Value := [.int .i64 s.k, .int .i64 s.a, .int .i64 s.x.path, .int .i64 s.x.kind, .int .i64 s.x.src, .int .i64 s.x.dst, .int .i64 s.x.prio, .int .u64 s.x.msg, .int .i64 s.x.off, .int .i64 s.x.len, .int .i64 s.x.total, .int .i64 s.x.num, .slice s.x.da s.x.dn s.x.dc]
theorem rowFst (s : Fst) : s.row.length = 13 := rfl
structure Fst.ok (W0 : World) (s : Fst) : Prop where
  msg : 0 ≤ s.x.msg
  dn : s.x.dn = s.x.bs.length
  rd : Rd W0 1 (.slice s.x.da s.x.dn s.x.dc) s.x.dn (bcells s.x.bs)
  a : -9223372036854775808 ≤ s.a ∧ s.a ≤ 9223372036854775807
  n : -9223372036854775808 ≤ s.x.path ∧ s.x.path ≤ 9223372036854775807
theorem sum_pair (n d b o cap : Nat) (w : World) (c0 : w.cell? ⟨b, o, none⟩ = some (.int .i64 d)) (c1 : w.cell? ⟨b, o + 1, none⟩ = some (.int .i64 30)) (hn : n ≤ 4000) (hd : d ≤ 9223372036854775807) : Calls Try.prog 47 #[.int .i64 n, .slice (some ⟨b, o, none⟩) 2 cap] w fun e w' => (∃ r : Nat, e = .returned (.int .i64 r) ∧ n + 30 ≤ r ∧ r ≤ 1099511627776) ∧ w = w' := by
  have hbl := World.block_lt_of_cell? w _ c0
  rcases (by omega : 1099511627776 - n < d ∨ (d ≤ 1099511627776 - n ∧ 1099511627776 - (n + d) < 30) ∨ (n + d + 30 ≤ 1099511627776)) with h1 | ⟨h1, h2⟩ | h1
  · have h3 : (1099511627776 : Int) - n < d := by omega
    go_enter Try.func47, Try.ntmps47
    go_wp2_with fail
    go_loopw [0, 5] (fun s i wr => s = .int .i64 n ∧ i = .int .i64 0 ∧ w = wr) (fun _ i _ => (1 - intOf i).toNat)
    case atStart => exact ⟨rfl, rfl, rfl⟩
    case round =>
      obtain ⟨rfl, rfl, rfl⟩ := hrel
      go_wp2_with fail
      go_ret
      exact ⟨⟨1099511627776, rfl, by omega, by omega⟩, rfl⟩
  · have h3 : (d : Int) ≤ 1099511627776 - n := by omega
    have h4 : (1099511627776 : Int) - ((n + d : Nat) : Int) < 30 := by omega
    go_enter Try.func47, Try.ntmps47
    go_wp2_with fail
    go_loopw [0, 5] (fun s i wr => ((s = .int .i64 n ∧ i = .int .i64 0) ∨ (s = .int .i64 ((n + d : Nat) : Int) ∧ i = .int .i64 1)) ∧ w = wr) (fun _ i _ => (2 - intOf i).toNat)
    case atStart => exact ⟨.inl ⟨rfl, rfl⟩, rfl⟩
    case round =>
      obtain ⟨⟨rfl, rfl⟩ | ⟨rfl, rfl⟩, rfl⟩ := hrel
      · go_wp2_with fail
        go_roundw
        case rel => exact ⟨.inr ⟨by go_num, rfl⟩, trivial⟩
        case measure => simp [intOf]
      · go_wp2_with fail
        go_ret
        exact ⟨⟨1099511627776, rfl, by omega, by omega⟩, rfl⟩
  · have h3 : (d : Int) ≤ 1099511627776 - n := by omega
    have h4 : (30 : Int) ≤ 1099511627776 - ((n + d : Nat) : Int) := by omega
    go_enter Try.func47, Try.ntmps47
    go_wp2_with fail
    go_loopw [0, 5] (fun s i wr => ((s = .int .i64 n ∧ i = .int .i64 0) ∨ (s = .int .i64 ((n + d : Nat) : Int) ∧ i = .int .i64 1) ∨ (s = .int .i64 ((n + d + 30 : Nat) : Int) ∧ i = .int .i64 2)) ∧ w = wr) (fun _ i _ => (2 - intOf i).toNat)
    case atStart => exact ⟨.inl ⟨rfl, rfl⟩, rfl⟩
    case round =>
      obtain ⟨⟨rfl, rfl⟩ | ⟨rfl, rfl⟩ | ⟨rfl, rfl⟩, rfl⟩ := hrel
      · go_wp2_with fail
        go_roundw
        case rel => exact ⟨.inr (.inl ⟨by go_num, rfl⟩), trivial⟩
        case measure => simp [intOf]
      · go_wp2_with fail
        go_roundw
        case rel => exact ⟨.inr (.inr ⟨by go_num, rfl⟩), trivial⟩
        case measure => simp [intOf]
      · go_wp2_with fail
        go_ret
        exact ⟨⟨n + d + 30, rfl, by omega, by omega⟩, rfl⟩
def SmallPost (S : List Fst) (w : World) (e : Ending) (w' : World) : Prop := (∃ b : Bool, e = .returned (.bool b) ∧ (b = true → S.length ≤ 133)) ∧ Below w.heap.size w w'
set_option maxRecDepth 100000 in
set_option maxHeartbeats 4000000 in
theorem small_any (S : List Fst) (v : Value) (w : World) (h : Rd w 13 v S.length (S.flatMap Fst.row)) (hs : ∀ s ∈ S, s.ok w) : Calls Try.prog 19 #[v] w (SmallPost S w) := by
  obtain ⟨a, ca, rfl, hac, hac2⟩ := h.form
  have HR := Lib.hid h
  have HS := Lib.hid hs
  clear h hs
  go_enter Try.func19, Try.ntmps19
  go_wp2_with fail
  go_loopw [3, 4] (fun n i wr => ∃ j r : Nat, j ≤ S.length ∧ i = .int .i64 j ∧ n = .int .i64 r ∧ 30 * j ≤ r ∧ r ≤ 1099511627776 ∧ Below w.heap.size w wr) (fun _ i _ => S.length - (intOf i).toNat)
  case atStart => exact ⟨0, 0, by omega, rfl, rfl, by omega, by omega, Below.refl _ _⟩
  case round =>
    obtain ⟨j, r, hj, rfl, rfl, hr1, hr2, hb⟩ := hrel
    have HB := Lib.hid hb
    have sw := hb.size
    clear hb
    rename World => wi
    by_cases hlt : j < S.length
    · by_cases hr : r ≤ 4000
      · obtain ⟨g, o, hgo, hg, hc⟩ := (HR.out.below HB.out).row rowFst (by decide) j hlt
        cases hgo
        have hso := HS.out _ (List.getElem_mem hlt)
        generalize S[j] = s at hc hso
        have cq12 : wi.cell? ⟨g, o + j * 13 + 12, none⟩ = some (.slice s.x.da s.x.dn s.x.dc) := hc 12 _ rfl
        have hdn : s.x.dn ≤ 9223372036854775807 := by
          obtain ⟨_, _, h1, h2, h3⟩ := hso.rd.form
          injection h1 with _ h4 h5
          omega
        have hdl := hso.dn
        rw [hdl] at cq12 hdn
        clear hc hso hdl
        have OZ := Lib.hid (Ob.new wi #[.int .i64 s.x.bs.length, .int .i64 30] 3)
        have BA := Lib.hid (HB.out.alloc sw (.cells #[.int .i64 s.x.bs.length, .int .i64 30] 3))
        go_wp2_with fail
        refine (sum_pair r s.x.bs.length wi.heap.size 0 2 _ ((OZ.out.blk).2.1 0) ((OZ.out.blk).2.1 1) hr hdn).mono ?_
        rintro e w3 ⟨⟨r', rfl, hr3, hr4⟩, rfl⟩
        go_wp2_with fail
        go_roundw
        case rel => exact ⟨j + 1, r', by omega, by go_num, rfl, by omega, by omega, BA.out⟩
        case measure => simp [intOf]; omega
      · go_wp2_with fail
        go_ret
        exact ⟨⟨_, rfl, fun hb => by simp at hb; omega⟩, HB.out⟩
    · obtain rfl : j = S.length := by omega
      go_wp2_with fail
      go_ret
      refine ⟨⟨_, rfl, fun hb => ?_⟩, HB.out⟩
      simp at hb
      omega
end Go.Proofs.Ytoihhidoafgoaaa
