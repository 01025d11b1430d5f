/- The law WireSums (chapter 10), walked. -/
import Derived.Test.YtaddbbbdklialaaWireSm
import Derived.Laws.BitsAllLaws
namespace Go.Proofs.Ytaddbbbdklialaa
open Go.RowKit

theorem xor_cell (a y : UInt8) : bits .xor .u8 (a.toNat : Int) (y.toNat : Int) = ((a ^^^ y).toNat : Int) := by
  rw [u8_xor_nat _ _ a.toNat_lt y.toNat_lt, UInt8.toNat_xor]
theorem cells_set (l : List UInt8) (k : Nat) (y : UInt8) : (bcells l).set k (.int .u8 y.toNat) = bcells (l.set k y) := by
  unfold bcells; rw [List.map_set]
set_option maxHeartbeats 4000000 in
theorem sums_any (f : Fr) (v : Value) (at' x : Int) (w : World) (hm : 0 ≤ f.msg) (h : Rd w 1 v f.data.length (bcells f.data)) (hx : 0 ≤ x ∧ x ≤ 255) : Calls Try.prog 4 #[f.val v, .int .i64 at', .int .u8 x] w (TrueBelow w) := by
  obtain ⟨v, cp, rfl, h1, h2⟩ := h.form
  have HR := Lib.hid h
  clear h
  have BF := Lib.hid ((Below.refl w.heap.size w).alloc (Nat.le_refl _) (.cells #[.int .i64 f.kind, .int .i64 f.src, .int .i64 f.dst, .int .i64 f.prio, .int .u64 f.msg, .int .i64 f.off, .int .i64 f.len, .int .i64 f.total, .int .i64 f.num, .slice v f.data.length cp] 26))
  rcases (by omega : 2000 < f.data.length ∨ (f.data.length ≤ 2000 ∧ x = 0) ∨ (f.data.length ≤ 2000 ∧ 0 < x)) with hl | ⟨hl, hx0⟩ | ⟨hl, hx0⟩
  · unfold Fr.val
    go_enter Try.func4, Try.ntmps4
    go_wp2_with fail
    refine (awake_any _).mono ?_
    rintro e w2 ⟨rfl, hb⟩
    go_wp2_with fail
    go_ret
    exact ⟨rfl, BF.out.trans (hb.mono BF.out.size)⟩
  · unfold Fr.val
    subst hx0
    go_enter Try.func4, Try.ntmps4
    go_wp2_with fail
    refine (awake_any _).mono ?_
    rintro e w2 ⟨rfl, hb⟩
    go_wp2_with fail
    go_ret
    exact ⟨rfl, BF.out.trans (hb.mono BF.out.size)⟩
  · have hxb : (x == 0) = false := beq_eq_false_iff_ne.2 (by omega)
    obtain ⟨y, HY, hy0⟩ : ∃ y : UInt8, Hid (x = (y.toNat : Int)) ∧ y ≠ 0 := by
      refine ⟨UInt8.ofNat x.toNat, Lib.hid ?_, fun he => ?_⟩
      · rw [UInt8.toNat_ofNat', Nat.mod_eq_of_lt (by rw [show (2 : Nat) ^ 8 = 256 by rfl]; omega)]; omega
      · have := congrArg UInt8.toNat he
        rw [UInt8.toNat_ofNat', Nat.mod_eq_of_lt (by rw [show (2 : Nat) ^ 8 = 256 by rfl]; omega)] at this
        simp at this; omega
    have HE := Lib.hid (encode_ref f (.slice v f.data.length cp) hm _ (HR.out.below BF.out))
    obtain ⟨k, HK, hk⟩ : ∃ k : Nat, Hid (at' % 26 = (k : Int)) ∧ k < 26 := ⟨(at' % 26).toNat, Lib.hid (by omega), by omega⟩
    unfold Fr.val at *
    go_enter Try.func4, Try.ntmps4
    go_wp2_with (go_at_call 13; refine HE.out.mono ?_)
    rintro e w1 ⟨⟨hok, v1, rfl, ho⟩ | ⟨_, rfl⟩, hb1⟩
    rotate_left
    · have B1 := Lib.hid (BF.out.trans (hb1.mono BF.out.size))
      clear hb1
      go_wp2_with fail
      refine (awake_any _).mono ?_
      rintro e w2 ⟨rfl, hb⟩
      go_wp2_with fail
      go_ret
      exact ⟨rfl, B1.out.trans (hb.mono B1.out.size)⟩
    have B1 := Lib.hid (BF.out.trans (hb1.mono BF.out.size))
    have hs1 := hb1.size
    obtain ⟨g, cap, rfl, hg1, hg2, hg3, hg4, hc, hfz⟩ := own_some ho (by rw [enc_len]; omega)
    have HOK := Lib.hid hok
    have HO := Lib.hid ho
    clear hok ho hb1
    have hel := enc_len f
    have hlk : k < (encF f).length := by omega
    have c0 := hc k (.int .u8 ((encF f)[k]).toNat) (by simp [bcells, hlk])
    have f0 := hfz k
    have HX := Lib.hid (xor_cell (encF f)[k] y)
    have HNG := Lib.hid (good_change (good_enc HOK.out) k hk ((encF f)[k] ^^^ y) (by
      rw [List.getD_eq_getElem?_getD, List.getElem?_eq_getElem hlk, Option.getD_some]; exact xor_ne _ _ hy0))
    clear hc hfz
    have HS : Hid (Rd (w1.setCell ⟨g, k, none⟩ (.int .u8 ((encF f)[k] ^^^ y).toNat)) 1 (.slice (some ⟨g, 0, none⟩) (encF f).length cap) ((encF f).set k ((encF f)[k] ^^^ y)).length (bcells ((encF f).set k ((encF f)[k] ^^^ y)))) := by
      have := Rd.of_own (own_set HO.out k (.int .u8 ((encF f)[k] ^^^ y).toNat))
      rw [cells_set] at this
      rw [List.length_set]
      exact Lib.hid this
    have BS := Lib.hid (below_set (a := ⟨g, k, none⟩) (v := .int .u8 ((encF f)[k] ^^^ y).toNat) B1.out (by show w.heap.size ≤ g; simp at hg1; omega))
    generalize (encF f)[k] = z at *
    rw [HY.out] at *
    go_wp2_with (go_at_call 14; refine (round_any _ _ _ (by decide) (by decide)).mono ?_; rintro e w' ⟨rfl, rfl⟩; rw [HK.out])
    rw [HX.out]
    refine (decode_any _ _ _ (by have := HS.out; rw [enc_len] at this; exact this)).mono ?_
    rintro e w3 ⟨⟨hn, _⟩ | ⟨_, rfl⟩, hb3⟩
    · exact absurd hn HNG.out
    have B3 := Lib.hid (BS.out.trans (hb3.mono BS.out.size))
    clear hb3
    unfold zeroF
    go_wp2_with (go_at_call 9; refine (awake_any _).mono ?_; rintro e w6 ⟨rfl, hb6⟩)
    go_ret
    have B4 := B3.out.alloc B3.out.size (.cells #[.int .i64 0, .int .i64 0, .int .i64 0, .int .i64 0, .int .u64 0, .int .i64 0, .int .i64 0, .int .i64 0, .int .i64 0, .slice none 0 0] 26)
    exact ⟨rfl, B4.trans (hb6.mono B4.size)⟩
end Go.Proofs.Ytaddbbbdklialaa
