/- The law WireBack (chapter 10), walked. -/
import Derived.Test.YtaddbbbdklialaaWireReads
namespace Go.Proofs.Ytaddbbbdklialaa
open Go.RowKit

theorem cut_bad {l : List UInt8} (h : goodB l) (k : Nat) (hk : k < l.length) : ¬ goodB (l.take k) := by
  intro hg
  have h1 := hg.1
  rw [List.length_take] at h1
  have h2 := good_head hg h (by rw [List.take_take, Nat.min_eq_left (by omega)])
  rw [List.length_take] at h2
  omega
theorem more_bad {l : List UInt8} (h : goodB l) (y : UInt8) : ¬ goodB (l ++ [y]) := by
  intro hg
  have h1 := h.1
  have h2 := good_head hg h (by rw [List.take_append_of_le_length h1])
  rw [List.length_append, List.length_singleton] at h2
  omega
theorem take_cells (l : List UInt8) (k : Nat) : (bcells l).take k = bcells (l.take k) := by simp [bcells, List.map_take]
theorem rd_to {w : World} {l : List UInt8} {a : Option Addr} {cap : Nat} (h : Rd w 1 (.slice a l.length cap) l.length (bcells l)) (k : Nat) (hk : k ≤ l.length) : Rd w 1 (.slice a k cap) (l.take k).length (bcells (l.take k)) := by
  rw [List.length_take, Nat.min_eq_left hk]
  rcases h with ⟨h1, h2, h3⟩ | ⟨x, c, h1, h2, h3, h4, h5⟩
  · simp only [Value.slice.injEq] at h1
    obtain ⟨rfl, h4, rfl⟩ := h1
    have : k = 0 := by omega
    subst this
    exact .inl ⟨rfl, rfl, rfl⟩
  · cases h1
    refine .inr ⟨x, cap, rfl, by omega, h3, by simp [bcells]; omega, fun j u hj => ?_⟩
    rw [← take_cells, List.getElem?_take] at hj
    split at hj
    · exact h5 j u hj
    · cases hj
set_option maxHeartbeats 8000000 in
set_option maxRecDepth 100000 in
theorem back_any (f : Fr) (v : Value) (cut x : Int) (w : World) (hm : 0 ≤ f.msg) (h : Rd w 1 v f.data.length (bcells f.data)) (hx : 0 ≤ x ∧ x ≤ 255) : Calls Try.prog 6 #[f.val v, .int .i64 cut, .int .u8 x] w (TrueBelow w) := by
  obtain ⟨v, cp, rfl, h1, h2⟩ := h.form
  have HR := Lib.hid h
  clear h
  have BF := Lib.hid ((Below.refl w.heap.size w).alloc (Nat.le_refl _) (.cells #[.int .i64 f.kind, .int .i64 f.src, .int .i64 f.dst, .int .i64 f.prio, .int .u64 f.msg, .int .i64 f.off, .int .i64 f.len, .int .i64 f.total, .int .i64 f.num, .slice v f.data.length cp] 26))
  have OF := Lib.hid (Ob.new w #[.int .i64 f.kind, .int .i64 f.src, .int .i64 f.dst, .int .i64 f.prio, .int .u64 f.msg, .int .i64 f.off, .int .i64 f.len, .int .i64 f.total, .int .i64 f.num, .slice v f.data.length cp] 26)
  rcases (by omega : 2000 < f.data.length ∨ f.data.length ≤ 2000) with hl | hl
  · unfold Fr.val
    go_enter Try.func6, Try.ntmps6
    go_wp2_with fail
    refine (awake_any _).mono ?_
    rintro e w2 ⟨rfl, hb⟩
    go_wp2_with fail
    go_ret
    exact ⟨rfl, BF.out.trans (hb.mono BF.out.size)⟩
  obtain ⟨y, HY⟩ : ∃ y : UInt8, Hid (x = (y.toNat : Int)) := by
    refine ⟨UInt8.ofNat x.toNat, Lib.hid ?_⟩
    rw [UInt8.toNat_ofNat', Nat.mod_eq_of_lt (by rw [show (2 : Nat) ^ 8 = 256 by rfl]; omega)]; omega
  have HC := Lib.hid (check_ref f v cp hm)
  have HE := Lib.hid (fun W h => encode_any f (.slice v f.data.length cp) hm W h)
  unfold Fr.val at HC HE ⊢
  go_enter Try.func6, Try.ntmps6
  go_wp2_with fail
  refine (HC.out _).mono ?_
  rintro e w1 ⟨⟨hok, rfl⟩ | ⟨hno, rfl⟩, hb1⟩
  rotate_left
  · have B1 := Lib.hid (BF.out.trans (hb1.mono BF.out.size))
    clear hb1
    go_wp2_with fail
    refine (awake_any _).mono ?_
    rintro e w2 ⟨rfl, hb⟩
    go_wp2_with fail
    go_ret
    exact ⟨rfl, B1.out.trans (hb.mono B1.out.size)⟩
  have B1 := Lib.hid (BF.out.trans (hb1.mono BF.out.size))
  have OF1 : Hid (Ob w1 w.heap.size _ _) := Lib.hid (OF.out.below hb1)
  have HK := Lib.hid hok
  clear hb1 hok OF BF
  obtain ⟨lf, cf, ff⟩ := OF1.out.blk
  go_wp2_with fail
  refine (HE.out _ (HR.out.below B1.out)).mono ?_
  rintro e w2 ⟨⟨_, v2, rfl, ho2⟩ | ⟨hno, _⟩, hb2⟩
  rotate_left
  · exact absurd HK.out hno
  have B2 := Lib.hid (B1.out.trans (hb2.mono B1.out.size))
  have OF2 : Hid (Ob w2 w.heap.size _ _) := Lib.hid (OF1.out.below hb2)
  have hel := enc_len f
  have HGD := Lib.hid (good_enc HK.out)
  have HRD := Lib.hid (rd_enc HK.out)
  have HDR : Hid ((encF f).drop 26 = f.data) := by
    have h9 : (rdF (encF f)).data = f.data := by rw [rd_enc HK.out]
    exact Lib.hid h9
  have R2 := Lib.hid (Rd.of_own ho2)
  have hln : 26 ≤ (encF f).length := by omega
  have hlm : (encF f).length ≤ 2026 := by omega
  have HEL := Lib.hid hel
  clear hb2 ho2 lf cf ff OF1 HE hel
  generalize encF f = L at *
  obtain ⟨v2, c2, rfl, h3, h4⟩ := R2.out.form
  go_wp2_with (go_at_call 10; refine (decode_any L _ _ R2.out).mono ?_)
  rintro e w3 ⟨⟨_, v3, rfl, hr3⟩ | ⟨hno, _⟩, hb3⟩
  rotate_left
  · exact absurd HGD.out hno
  rw [HRD.out]
  rw [HDR.out] at hr3
  obtain ⟨v3, c3, rfl, h5, h6⟩ := hr3.form
  have B3 := Lib.hid ((B2.out.trans (hb3.mono B2.out.size)).alloc (B2.out.trans (hb3.mono B2.out.size)).size (.cells #[.int .i64 f.kind, .int .i64 f.src, .int .i64 f.dst, .int .i64 f.prio, .int .u64 f.msg, .int .i64 f.off, .int .i64 f.len, .int .i64 f.total, .int .i64 f.num, .slice v3 f.data.length c3] 26))
  have OF3 := Lib.hid ((OF2.out.below hb3).alloc (.cells #[.int .i64 f.kind, .int .i64 f.src, .int .i64 f.dst, .int .i64 f.prio, .int .u64 f.msg, .int .i64 f.off, .int .i64 f.len, .int .i64 f.total, .int .i64 f.num, .slice v3 f.data.length c3] 26))
  have R3 := Lib.hid ((R2.out.below hb3).alloc (.cells #[.int .i64 f.kind, .int .i64 f.src, .int .i64 f.dst, .int .i64 f.prio, .int .u64 f.msg, .int .i64 f.off, .int .i64 f.len, .int .i64 f.total, .int .i64 f.num, .slice v3 f.data.length c3] 26))
  have D3 := Lib.hid (Rd.alloc hr3 (.cells #[.int .i64 f.kind, .int .i64 f.src, .int .i64 f.dst, .int .i64 f.prio, .int .u64 f.msg, .int .i64 f.off, .int .i64 f.len, .int .i64 f.total, .int .i64 f.num, .slice v3 f.data.length c3] 26))
  have O3 := Lib.hid (Ob.new w3 #[.int .i64 f.kind, .int .i64 f.src, .int .i64 f.dst, .int .i64 f.prio, .int .u64 f.msg, .int .i64 f.off, .int .i64 f.len, .int .i64 f.total, .int .i64 f.num, .slice v3 f.data.length c3] 26)
  clear hr3 hb3
  unfold Fr.val
  obtain ⟨k, HKK, hk⟩ : ∃ k : Nat, Hid (cut % (L.length : Int) = (k : Int)) ∧ k < L.length := by
    have e1 := Int.emod_nonneg cut (b := (L.length : Int)) (by omega)
    have e2 := Int.emod_lt_of_pos cut (b := (L.length : Int)) (by omega)
    exact ⟨(cut % (L.length : Int)).toNat, Lib.hid (by omega), by omega⟩
  go_wp2_with (first
    | (go_at_call 14; refine (round_any _ _ _ (by omega) (by omega)).mono ?_; rintro e w' ⟨rfl, rfl⟩; rw [HKK.out])
    | (refine wpList_slTo rfl _ _ _ rfl Try.underlying22 info_u8 rfl rfl (by omega) ?_))
  refine (decode_any (L.take k) _ _ (rd_to R3.out k (by omega))).mono ?_
  rintro e w4 ⟨⟨hg, _⟩ | ⟨_, rfl⟩, hb4⟩
  · exact absurd hg (cut_bad HGD.out k hk)
  have B4 := Lib.hid ((B3.out.trans (hb4.mono B3.out.size)).alloc (B3.out.trans (hb4.mono B3.out.size)).size (.cells #[.int .i64 0, .int .i64 0, .int .i64 0, .int .i64 0, .int .u64 0, .int .i64 0, .int .i64 0, .int .i64 0, .int .i64 0, .slice none 0 0] 26))
  have OF4 := Lib.hid ((OF3.out.below hb4).alloc (.cells #[.int .i64 0, .int .i64 0, .int .i64 0, .int .i64 0, .int .u64 0, .int .i64 0, .int .i64 0, .int .i64 0, .int .i64 0, .slice none 0 0] 26))
  have R4 := Lib.hid ((R3.out.below hb4).alloc (.cells #[.int .i64 0, .int .i64 0, .int .i64 0, .int .i64 0, .int .u64 0, .int .i64 0, .int .i64 0, .int .i64 0, .int .i64 0, .slice none 0 0] 26))
  have D4 := Lib.hid ((D3.out.below hb4).alloc (.cells #[.int .i64 0, .int .i64 0, .int .i64 0, .int .i64 0, .int .u64 0, .int .i64 0, .int .i64 0, .int .i64 0, .int .i64 0, .slice none 0 0] 26))
  have O4 := Lib.hid ((O3.out.below hb4).alloc (.cells #[.int .i64 0, .int .i64 0, .int .i64 0, .int .i64 0, .int .u64 0, .int .i64 0, .int .i64 0, .int .i64 0, .int .i64 0, .slice none 0 0] 26))
  have HO := World.ownsRow_made (e := 5) (size := 1) (w4.alloc (.cells #[.int .i64 0, .int .i64 0, .int .i64 0, .int .i64 0, .int .u64 0, .int .i64 0, .int .i64 0, .int .i64 0, .int .i64 0, .slice none 0 0] 26)) #[] 0 (Nat.le_refl _) (by decide) rfl
  have hs4 : w3.heap.size < w4.heap.size := by have := hb4.size; rw [World.size_alloc] at this; omega
  rw [World.size_alloc] at HO
  have HO4 := Lib.hid HO
  clear HO hb4
  unfold zeroF
  go_wp2_with (at_builtin; refine wpList_appS rfl (.tmp 53) (.tmp 54) 22 rfl info_u8 Try.underlying22 rfl (by decide) HO4.out (R4.out.alloc _) rfl rfl (bcells_one _) (by omega) (by simp) ?_)
  intro v5 w5 ho5 hg5
  have hb5 : Below (w4.alloc (.cells #[.int .i64 0, .int .i64 0, .int .i64 0, .int .i64 0, .int .u64 0, .int .i64 0, .int .i64 0, .int .i64 0, .int .i64 0, .slice none 0 0] 26)).heap.size (w4.alloc (.cells #[.int .i64 0, .int .i64 0, .int .i64 0, .int .i64 0, .int .u64 0, .int .i64 0, .int .i64 0, .int .i64 0, .int .i64 0, .slice none 0 0] 26)) w5 := ((Below.refl _ _).alloc (Nat.le_refl _) (.cells #[] 5)).grown hg5 (by simp) (by intro k hk; simp [Value.ownBlock] at hk; simp; omega)
  have B5 := Lib.hid (B4.out.trans (hb5.mono B4.out.size))
  have OF5 := Lib.hid (OF4.out.below hb5)
  have D5 := Lib.hid (D4.out.below hb5)
  have O5 := Lib.hid (O4.out.below hb5)
  have s5 : w4.heap.size + 1 ≤ w5.heap.size := by have := hb5.size; rw [World.size_alloc] at this; omega
  have HO5 : Hid (w5.ownsRow (w4.heap.size + 1) 5 1 v5 L.length (bcells L)) := Lib.hid (by simpa using ho5)
  have HB5 := Lib.hid hb5
  clear hb5 ho5 hg5
  go_wp2_with (at_builtin; refine wpList_app1 rfl (.tmp 55) (.tmp 57) 22 rfl info_u8 Try.underlying22 rfl (by decide) HO5.out [.int .u8 x] rfl rfl (by simp) ⟨rfl, by simp [Value.oneCell']⟩ (by omega) (by omega) ?_)
  intro v6 w6 ho6 hg6
  have hb6 := grown_below HO5.out hg6 s5
  have R6 : Hid (Rd w6 1 v6 (L ++ [y]).length (bcells (L ++ [y]))) := by
    have h9 := Rd.of_own ho6
    rw [HY.out] at h9
    rw [List.length_append, List.length_singleton, bcells_app]
    exact Lib.hid h9
  have hb56 : Below (w4.alloc (.cells #[.int .i64 0, .int .i64 0, .int .i64 0, .int .i64 0, .int .u64 0, .int .i64 0, .int .i64 0, .int .i64 0, .int .i64 0, .slice none 0 0] 26)).heap.size (w4.alloc (.cells #[.int .i64 0, .int .i64 0, .int .i64 0, .int .i64 0, .int .u64 0, .int .i64 0, .int .i64 0, .int .i64 0, .int .i64 0, .slice none 0 0] 26)) w6 := HB5.out.trans (by rw [World.size_alloc]; exact hb6)
  have B6 := Lib.hid (B4.out.trans (hb56.mono B4.out.size))
  have OF6 := Lib.hid (OF4.out.below hb56)
  have D6 := Lib.hid (D4.out.below hb56)
  have O6 := Lib.hid (O4.out.below hb56)
  clear hb56 hb6 ho6 hg6
  go_wp2_with (go_at_call 10; refine (decode_any (L ++ [y]) _ _ R6.out).mono ?_)
  rintro e w7 ⟨⟨hg, _⟩ | ⟨_, rfl⟩, hb7⟩
  · exact absurd hg (more_bad HGD.out y)
  have B7 := Lib.hid ((B6.out.trans (hb7.mono B6.out.size)).alloc (B6.out.trans (hb7.mono B6.out.size)).size (.cells #[.int .i64 0, .int .i64 0, .int .i64 0, .int .i64 0, .int .u64 0, .int .i64 0, .int .i64 0, .int .i64 0, .int .i64 0, .slice none 0 0] 26))
  have OF7 := Lib.hid ((OF6.out.below hb7).alloc (.cells #[.int .i64 0, .int .i64 0, .int .i64 0, .int .i64 0, .int .u64 0, .int .i64 0, .int .i64 0, .int .i64 0, .int .i64 0, .slice none 0 0] 26))
  have D7 := Lib.hid ((D6.out.below hb7).alloc (.cells #[.int .i64 0, .int .i64 0, .int .i64 0, .int .i64 0, .int .u64 0, .int .i64 0, .int .i64 0, .int .i64 0, .int .i64 0, .slice none 0 0] 26))
  have O7 := Lib.hid ((O6.out.below hb7).alloc (.cells #[.int .i64 0, .int .i64 0, .int .i64 0, .int .i64 0, .int .u64 0, .int .i64 0, .int .i64 0, .int .i64 0, .int .i64 0, .slice none 0 0] 26))
  have HR7 := Lib.hid (HR.out.below B7.out)
  unfold zeroF
  obtain ⟨l3, k3, f3⟩ := OF7.out.blk
  obtain ⟨l9, k9, f9⟩ := O7.out.blk
  have hsz : ((L.length : Int) == sizeI f) = true := by
    have h8 := HK.out.data
    have h9 := HEL.out
    unfold sizeI
    rw [beq_iff_eq]
    split at h8 <;> rename_i hk8
    · rw [if_pos hk8]; omega
    · rw [if_neg hk8]; omega
  have HLN := HK.out.len
  go_wp2_with (go_at_call 20; refine (same_any f f (.slice v f.data.length cp) (.slice v3 f.data.length c3) _ HR7.out D7.out).mono ?_)
  intro e w8 hs8
  obtain ⟨rfl, hb8⟩ := same_one hs8
  have B8 := Lib.hid (B7.out.trans (hb8.mono B7.out.size))
  have OF8 : Hid (Ob w8 w.heap.size _ _) := Lib.hid (OF7.out.below hb8)
  have D8 := Lib.hid (D7.out.below hb8)
  have HR8 := Lib.hid (HR7.out.below hb8)
  have O8 : Hid (Ob w8 w3.heap.size _ _) := Lib.hid (O7.out.below hb8)
  clear hb8 hs8 l3 k3 f3 l9 k9 f9
  obtain ⟨l3, k3, f3⟩ := OF8.out.blk
  obtain ⟨l9, k9, f9⟩ := O8.out.blk
  go_wp2_with (go_at_call 12; refine (same_ref f f (.slice v f.data.length cp) (.slice v3 f.data.length c3) _ HR8.out D8.out).mono ?_)
  intro e w9 hs9
  obtain ⟨rfl, hb9⟩ := same_one hs9
  have B9 := Lib.hid (B8.out.trans (hb9.mono B8.out.size))
  have OF9 : Hid (Ob w9 w.heap.size _ _) := Lib.hid (OF8.out.below hb9)
  clear hb9 hs9 l3 k3 f3 l9 k9 f9
  obtain ⟨l3, k3, f3⟩ := OF9.out.blk
  go_wp2_with (go_at_call 18; refine (size_any f (.slice v f.data.length cp) _ (by omega)).mono ?_)
  rintro e w10 ⟨rfl, hb10⟩
  have B10 := Lib.hid (B9.out.trans (hb10.mono B9.out.size))
  clear hb10
  go_wp2_with (go_at_call 9; refine (awake_any _).mono ?_)
  rintro e w11 ⟨rfl, hb11⟩
  go_wp2_with fail
  go_ret
  exact ⟨rfl, B10.out.trans (hb11.mono B10.out.size)⟩
end Go.Proofs.Ytaddbbbdklialaa
