/- mizzenalike.Block: so many bytes of their own. -/
import Derived.Test.YthgkminjhpaakaaPoA
namespace Go.Proofs.Ythgkminjhpaakaa
open Go.RowKit

theorem own_setB {w : World} {B : Nat} {e : TypeId} {g n cap : Nat} {xs : List Value} (h : w.ownsRow B e 1 (.slice (some ⟨g, 0, none⟩) n cap) n xs) (i : Nat) (u : Value) : (w.setCell ⟨g, i, none⟩ u).ownsRow B e 1 (.slice (some ⟨g, 0, none⟩) n cap) n (xs.set i u) := by
  refine ⟨by rw [List.length_set]; exact h.1, ?_⟩
  rcases h.2 with ⟨h2, _⟩ | ⟨g', cap', cur, hv, hb, hh, h3, h4, h5, h6⟩
  · cases h2
  · cases hv
    refine .inr ⟨g, cap, cur.setIfInBounds i u, rfl, hb, ?_, h3, h4, by simpa using h5, ?_⟩
    · exact (Ob.set (T := e) (cs := cur) hh i u)
    · rw [Array.toList_setIfInBounds, List.take_set, h6]
theorem made_u8B (n : Nat) : (madeCells #[Value.int .u8 0] n).toList = bcells (List.replicate n 0) := by
  simp [madeCells, Nat.mod_one, bcells, List.map_replicate, List.map_const']
theorem bcells_setB (l : List UInt8) (i : Nat) (v : Int) (h : 0 ≤ v ∧ v ≤ 255) : (bcells l).set i (.int .u8 v) = bcells (l.set i (UInt8.ofNat v.toNat)) := by
  unfold bcells
  rw [List.map_set]
  congr 2
  have : (UInt8.ofNat v.toNat).toNat = v.toNat := by
    rw [UInt8.toNat_ofNat']
    omega
  rw [this]
  omega
theorem info_u8B : (Try.prog.info? 5).map (fun i => (i.zero, i.size, i.bytes)) = some (some (.int .u8 0), 1, 1) := by kernel_rfl
set_option maxRecDepth 100000 in
set_option maxHeartbeats 2000000 in
theorem block_any (n : Nat) (e : Int) (w : World) (h : 1 ≤ n ∧ n ≤ 500) : Calls Try.prog 15 #[.int .i64 n, .int .i64 e] w fun en w' => ∃ a c bs, en = .returned (.slice a n c) ∧ w'.ownsRow w.heap.size TU 1 (.slice a n c) n (bcells bs) ∧ Below w.heap.size w w' := by
  obtain ⟨h1, h2⟩ := h
  obtain ⟨i0, hi0, hz0, hs0, hb0⟩ := info_parts info_u8B
  go_enter Try.func15, Try.ntmps15
  go_wp2_with (refine wpList_make_row _ rfl (.tmp 7) (.tmp 7) _ rfl TU i0 (.int .u8 0) (by rfl) hi0 hz0 hs0 rfl .i64 .i64 n rfl rfl (by rw [hb0]; omega) (by omega) ?_)
  have HO : Hid ((w.alloc (.cells (madeCells #[Value.int .u8 0] n) TU)).ownsRow w.heap.size TU 1 (.slice (some ⟨w.heap.size, 0, none⟩) n n) n (bcells (List.replicate n 0))) :=
    Lib.hid ⟨by simp [bcells], .inr ⟨w.heap.size, n, madeCells #[Value.int .u8 0] n, rfl, Nat.le_refl _, heap_new _ _, Nat.le_refl _, by unfold Go.maxLen; omega, by have := congrArg List.length (made_u8B n); simpa [bcells] using this, by rw [made_u8B]; simp [bcells]⟩⟩
  have HB := Lib.hid ((Below.refl w.heap.size w).alloc (Nat.le_refl _) (.cells (madeCells #[Value.int .u8 0] n) TU))
  obtain ⟨X, HX⟩ : ∃ X, Hid (w.heap.size = X) := ⟨_, Lib.hid rfl⟩
  rw [HX.out] at HO ⊢
  generalize w.alloc (.cells (madeCells #[Value.int .u8 0] n) TU) = w1 at *
  clear hi0 hz0 hs0 hb0
  have HB' : Hid (Below X w w1) := Lib.hid (HX.out ▸ HB.out)
  have sX : w.heap.size ≤ X := Nat.le_of_eq HX.out
  go_loopw [6] (fun i wr => ∃ (j : Nat) (bs : List UInt8), j ≤ n ∧ i = .int .i64 j ∧ wr.ownsRow X TU 1 (.slice (some ⟨X, 0, none⟩) n n) n (bcells bs) ∧ Below X w wr) (fun i _ => n - (intOf i).toNat)
  case atStart => exact ⟨0, _, by omega, rfl, HO.out, HB'.out⟩
  case round =>
    obtain ⟨j, bs, hj, rfl, ho, hb⟩ := hrel
    have HOj := Lib.hid ho
    have HBj := Lib.hid hb
    rename World => wi
    by_cases hlt : j < n
    · obtain ⟨g, cap, hv, _, _, _, hgw, hgc, hgf⟩ := own_some ho (by omega)
      cases hv
      have hbl : bs.length = n := by have := ho.1; rw [bcells_len] at this; omega
      obtain ⟨bj, cj⟩ : ∃ bj : Int, wi.cell? ⟨X, j, none⟩ = some (.int .u8 bj) := ⟨_, hgc j (.int .u8 (bs[j]'(by omega)).toNat) (by unfold bcells; rw [List.getElem?_map, List.getElem?_eq_getElem (by omega)]; rfl)⟩
      have fj := hgf j
      clear hgc hgf ho hb hbl
      go_wp2_with fail
      go_roundw
      case rel =>
        refine ⟨j + 1, bs.set j (UInt8.ofNat ((e + ↑j % 256 * 7) % 256).toNat), by omega, by go_num, ?_, HBj.out.setCell (p := ⟨X, j, none⟩) (Nat.le_refl X) _⟩
        rw [← bcells_setB bs j _ (by omega)]
        exact own_setB HOj.out j _
      case measure => simp [intOf]; omega
    · obtain rfl : j = n := by omega
      clear ho hb
      go_wp2_with fail
      go_ret
      exact ⟨_, _, bs, rfl, HX.out ▸ HOj.out, HX.out ▸ HBj.out⟩
end Go.Proofs.Ythgkminjhpaakaa
