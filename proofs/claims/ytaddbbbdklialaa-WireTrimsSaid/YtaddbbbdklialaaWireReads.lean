/- The law WireReads (chapter 10), walked. -/
import Derived.Test.YtaddbbbdklialaaWireSm
namespace Go.Proofs.Ytaddbbbdklialaa
open Go.RowKit

theorem same_one {f : Fr} {w w' : World} {e : Ending} (h : SamePost f f w e w') : e = .returned (.bool true) ∧ Below w.heap.size w w' := by
  obtain ⟨b, rfl, hb, hw⟩ := h
  rw [hb.2 rfl]
  exact ⟨rfl, hw⟩
set_option maxHeartbeats 4000000 in
theorem reads_any (l : List UInt8) (v : Value) (w : World) (h : Rd w 1 v l.length (bcells l)) : Calls Try.prog 3 #[v] w (TrueBelow w) := by
  obtain ⟨v, cp, rfl, h1, h2⟩ := h.form
  have HR := Lib.hid h
  clear h
  rcases (by omega : l.length ≤ 2000 ∨ 2000 < l.length) with hl | hl
  rotate_left
  · go_enter Try.func3, Try.ntmps3
    go_wp2_with fail
    refine (awake_any _).mono ?_
    rintro e w2 ⟨rfl, hb⟩
    go_wp2_with fail
    go_ret
    exact ⟨rfl, hb⟩
  · go_enter Try.func3, Try.ntmps3
    go_wp2_with fail
    refine (decode_any l _ _ HR.out).mono ?_
    rintro e w1 ⟨⟨hg, v1, rfl, hr1⟩ | ⟨hg, rfl⟩, hb1⟩
    all_goals
      have HG := Lib.hid hg
      have B1 := Lib.hid hb1
      clear hg hb1
    · obtain ⟨v1, c1, rfl, h3, h4⟩ := hr1.form
      have R1 := Lib.hid hr1
      clear hr1
      unfold Fr.val
      generalize hf : rdF l = f at *
      have HFD : Hid (f.data = l.drop 26) := by rw [← hf]; exact Lib.hid rfl
      have HFE := Lib.hid hf
      clear hf
      rw [← HFD.out] at R1 ⊢
      have B2 := Lib.hid (B1.out.alloc B1.out.size (.cells #[.int .i64 f.kind, .int .i64 f.src, .int .i64 f.dst, .int .i64 f.prio, .int .u64 f.msg, .int .i64 f.off, .int .i64 f.len, .int .i64 f.total, .int .i64 f.num, .slice v1 f.data.length c1] 26))
      have O2 := Lib.hid (Ob.new w1 #[.int .i64 f.kind, .int .i64 f.src, .int .i64 f.dst, .int .i64 f.prio, .int .u64 f.msg, .int .i64 f.off, .int .i64 f.len, .int .i64 f.total, .int .i64 f.num, .slice v1 f.data.length c1] 26)
      have s1 := B1.out.size
      go_wp2_with (go_at_call 11; refine (decode_ref l _ _ (HR.out.below B2.out) (by omega)).mono ?_)
      rintro e w3 ⟨⟨_, v3, rfl, hr3⟩ | ⟨hn, _⟩, hb3⟩
      rotate_left
      · exact absurd HG.out hn
      rw [HFE.out]
      rw [← HFD.out] at hr3
      obtain ⟨v3, c3, rfl, h5, h6⟩ := hr3.form
      have R3 := Lib.hid hr3
      have B3 := Lib.hid (B2.out.trans (hb3.mono B2.out.size))
      have O3 := Lib.hid (O2.out.below hb3)
      have R1' := Lib.hid ((R1.out.alloc (.cells #[.int .i64 f.kind, .int .i64 f.src, .int .i64 f.dst, .int .i64 f.prio, .int .u64 f.msg, .int .i64 f.off, .int .i64 f.len, .int .i64 f.total, .int .i64 f.num, .slice v1 f.data.length c1] 26)).below hb3)
      clear hr3 hb3
      unfold Fr.val
      have s3 := B3.out.size
      obtain ⟨l3, k3, f3⟩ := O3.out.blk
      have B4 := Lib.hid (B3.out.alloc B3.out.size (.cells #[.int .i64 f.kind, .int .i64 f.src, .int .i64 f.dst, .int .i64 f.prio, .int .u64 f.msg, .int .i64 f.off, .int .i64 f.len, .int .i64 f.total, .int .i64 f.num, .slice v3 f.data.length c3] 26))
      go_wp2_with (first
        | (go_at_call 12; refine (same_ref f f (.slice v1 f.data.length c1) (.slice v3 f.data.length c3) _ (R1'.out.alloc _) (R3.out.alloc _)).mono ?_; intro e w5 hs5; obtain ⟨rfl, hb5⟩ := same_one hs5)
        | (go_at_call 9; refine (awake_any _).mono ?_; rintro e w6 ⟨rfl, hb6⟩))
      go_ret
      exact ⟨rfl, (B4.out.trans (hb5.mono B4.out.size)).trans (hb6.mono (B4.out.trans (hb5.mono B4.out.size)).size)⟩
    · have B2 := Lib.hid (B1.out.alloc B1.out.size (.cells #[.int .i64 0, .int .i64 0, .int .i64 0, .int .i64 0, .int .u64 0, .int .i64 0, .int .i64 0, .int .i64 0, .int .i64 0, .slice none 0 0] 26))
      have O2 := Lib.hid (Ob.new w1 #[.int .i64 0, .int .i64 0, .int .i64 0, .int .i64 0, .int .u64 0, .int .i64 0, .int .i64 0, .int .i64 0, .int .i64 0, .slice none 0 0] 26)
      have s1 := B1.out.size
      unfold zeroF
      go_wp2_with (go_at_call 11; refine (decode_ref l _ _ (HR.out.below B2.out) (by omega)).mono ?_)
      rintro e w3 ⟨⟨hn, _⟩ | ⟨_, rfl⟩, hb3⟩
      · exact absurd hn HG.out
      have B3 := Lib.hid (B2.out.trans (hb3.mono B2.out.size))
      have O3 := Lib.hid (O2.out.below hb3)
      clear hb3
      unfold zeroF
      have s3 := B3.out.size
      obtain ⟨l3, k3, f3⟩ := O3.out.blk
      have B4 := Lib.hid (B3.out.alloc B3.out.size (.cells #[.int .i64 0, .int .i64 0, .int .i64 0, .int .i64 0, .int .u64 0, .int .i64 0, .int .i64 0, .int .i64 0, .int .i64 0, .slice none 0 0] 26))
      go_wp2_with (first
        | (go_at_call 12; refine (same_ref zF zF (.slice none 0 0) (.slice none 0 0) _ (Rd.nil _ _) (Rd.nil _ _)).mono ?_; intro e w5 hs5; obtain ⟨rfl, hb5⟩ := same_one hs5)
        | (go_at_call 9; refine (awake_any _).mono ?_; rintro e w6 ⟨rfl, hb6⟩))
      go_ret
      exact ⟨rfl, (B4.out.trans (hb5.mono B4.out.size)).trans (hb6.mono (B4.out.trans (hb5.mono B4.out.size)).size)⟩
end Go.Proofs.Ytaddbbbdklialaa
