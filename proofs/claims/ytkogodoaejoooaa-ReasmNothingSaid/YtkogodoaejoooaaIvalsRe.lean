/- slices.Replace of a part by one range. -/
import Derived.Test.YtkogodoaejoooaaIvalsSl
namespace Go.Proofs.Ytkogodoaejoooaa
open Go.RowKit

abbrev TR : TypeId := 48
theorem rep_take {R new D : List Value} {I k J M : Nat} (hk : new.length = k) (hI : I + k ≤ R.length) (hJ : J = I + k) (hM : M = J + D.length) :
    ((R.take I ++ new ++ R.drop (I + new.length)).take J ++ D ++ (R.take I ++ new ++ R.drop (I + new.length)).drop (J + D.length)).take M = R.take I ++ new ++ D := by
  subst hJ hM
  have h1 : (R.take I ++ new ++ R.drop (I + new.length)).take (I + k) = R.take I ++ new := by
    exact List.take_left' (by rw [List.length_append, List.length_take]; omega)
  rw [h1]
  exact List.take_left' (by rw [List.length_append, List.length_append, List.length_take]; omega)
theorem take_under (X Z : List Value) (M N : Nat) (h : M ≤ X.length) : (X.take M ++ Z ++ X.drop N).take M = X.take M := by
  rw [List.append_assoc]
  exact List.take_left' (by rw [List.length_take]; omega)
set_option maxRecDepth 100000 in
set_option maxHeartbeats 2000000 in
theorem replace_same (B : Nat) (V : Value) (n i vb vc : Nat) (xs new : List Value) (w : World) (h : w.ownsRow B TR 2 V n xs) (hi : i ≤ n) (hnl : new.length = 2) (hv : Rw w vb new TR) (hmc : 1 ≤ vc) (hvc : vc ≤ 9223372036854775807)
    (hne : V.ownBlock ≠ some vb) (h1c : ∀ u ∈ xs, u.oneCell' = true) (h1v : ∀ u ∈ new, u.oneCell' = true) (hbig : (n + 1) * 16 ≤ 140737488355328) (hB : B ≤ w.heap.size) :
    Calls Try.prog 29 #[V, .int .i64 i, .int .i64 i, .slice (some ⟨vb, 0, none⟩) 1 vc] w (InsPost B TR 2 V (i + 1 + (n - i)) (xs.take (i * 2) ++ new ++ xs.drop (i * 2)) w) := by
  have hi1 := insert_rg B V n i vb 1 vc xs new w h hi (Nat.lt_succ_self 0) (by rw [hnl]) hv hmc hvc hne h1c h1v hbig hB
  have HI := Lib.hid hi1
  clear hi1
  obtain ⟨a, c, rfl, hnc, hcm⟩ := (Rd.of_own h).form
  clear h hv h1c h1v
  rw [show i + 1 + (n - i) = n + 1 by omega]
  have hic : i ≤ c := by omega
  go_enter Try.func29, Try.ntmps29
  go_wp2_with (refine wpList_sl2 rfl _ _ _ _ rfl Try.underlying38 info_rg rfl rfl rfl (by omega) ?_)
  refine HI.out.mono ?_
  rintro e w' ⟨V', rfl, hp⟩
  have HP := Lib.hid hp
  clear hp
  go_wp2_with fail
  go_ret
  exact ⟨V', rfl, HP.out⟩
set_option maxRecDepth 100000 in
set_option maxHeartbeats 2000000 in
theorem replace_end (B : Nat) (V : Value) (n i vb vc : Nat) (xs new : List Value) (w : World) (h : w.ownsRow B TR 2 V n xs) (hi : i < n) (hnl : new.length = 2) (hv : Rw w vb new TR) (_ : 1 ≤ vc) (_ : vc ≤ 9223372036854775807)
    (_ : V.ownBlock ≠ some vb) (h1v : ∀ u ∈ new, u.oneCell' = true) :
    Calls Try.prog 29 #[V, .int .i64 i, .int .i64 n, .slice (some ⟨vb, 0, none⟩) 1 vc] w (InsPost B TR 2 V (i + 1) (xs.take (i * 2) ++ new) w) := by
  have hxl := h.1
  obtain ⟨g, cap, rfl, _⟩ := own_some h (by omega)
  obtain ⟨hBg, hnc, hcm, _, cs, hr, hcl, hcx⟩ := own_row h
  have hvs : Hid (∀ j v, new[j]? = some v → w.cell? ((⟨vb, 0, none⟩ : Addr).add j) = some v) := Lib.hid (fun j v hj => by rw [addr_add, Nat.zero_add, hv.cell]; exact hj)
  have hsp : Hid (∀ t, t < new.length → (w.cell? ⟨g, 0 + i * 2 + t, none⟩).isSome = true ∧ w.frozen? ⟨g, 0 + i * 2 + t, none⟩ = false) := Lib.hid (fun t ht => by
    rw [hr.cell, List.getElem?_eq_getElem (by rw [hcl]; omega)]
    exact ⟨rfl, hr.free _⟩)
  have hR1 := hr.sets new (i * 2) _ _ (by rw [hnl, hcl]; omega)
  have hl1 := sets_len cs new (i * 2) (by rw [hnl, hcl]; omega)
  have hci : cs.take (i * 2) = xs.take (i * 2) := by rw [← hcx, List.take_take, Nat.min_eq_left (by omega)]
  have ht1 : (cs.take (i * 2) ++ new ++ cs.drop (i * 2 + new.length)).take ((i + 1) * 2) = xs.take (i * 2) ++ new := by
    rw [hci]
    exact List.take_left' (by rw [List.length_append, List.length_take]; omega)
  have HNL := Lib.hid hnl
  have H1V := Lib.hid h1v
  have hic : i ≤ cap := by omega
  have hrun : 0 < n - (i + 1) → ∀ ty c, (Builtin.clear_ #[38] ty #[.slice (some ⟨g, (i + 1) * 2, none⟩) (n - (i + 1)) c]).run Try.prog (w.setCells g (0 + i * 2) new) = .ok (.tuple #[]) ((w.setCells g (0 + i * 2) new).setCells g ((i + 1) * 2) (Builtin.zeroCells (Value.cells (.agg #[.int .i64 0, .int .i64 0])) (n - (i + 1))).toList) := by
    intro h0 ty c
    rw [Nat.zero_add]
    exact run_clear Try.underlying38 zero_rg (by simp [Value.cells, Value.oneCell']) h0 hR1 (by rw [hl1, hcl]; simp [Value.cells]; omega)
  rcases (by omega : n = i + 1 ∨ i + 1 < n) with hn1 | hn1
  · have HP := Lib.hid (show InsPost B TR 2 (.slice (some ⟨g, 0, none⟩) n cap) (i + 1) (xs.take (i * 2) ++ new) w (.returned (.slice (some ⟨g, 0, none⟩) (i + 1) cap)) (w.setCells g (0 + i * 2) new) from
      ⟨_, rfl, row_own hBg (by omega) hcm (by rw [Nat.zero_add]; exact hR1) (by rw [hl1, hcl]) ht1, (Kept.sets _ _ _ (Kept.refl (Only g) w)).mono (fun x _ hx => by rw [show x = g from hx]; rfl), .inl rfl⟩)
    rw [Nat.zero_add] at HP
    clear hr hv hR1 hl1 h hcx hcl hci ht1 hrun hxl
    subst hn1
    have hd : decide (i + 1 < i + 1) = false := decide_eq_false (by omega)
    go_enter Try.func29, Try.ntmps29
    go_wp2_with (at_builtin; refine wpList_plain rfl fun _ hK => wp_app_room (.tmp 32) (.tmp 33) 38 (by rfl) info_rg Try.underlying38 (b := g) (off := 0) (n := i) (cap := cap) (by rfl) (ad := ⟨vb, 0, none⟩) (m := 1) (c := vc) (by rfl) HNL.out hvs.out H1V.out (by omega) hsp.out (hK _ _ ?_))
    go_ret
    obtain ⟨V', h1, h2⟩ := HP.out
    cases h1
    exact ⟨_, rfl, h2⟩
  · have hR2 := hR1.sets ((Builtin.zeroCells (Value.cells (.agg #[.int .i64 0, .int .i64 0])) (n - (i + 1))).toList) ((i + 1) * 2) _ _ (by rw [hl1, hcl, zeroCells_len]; simp [Value.cells]; omega)
    have hl2 := sets_len _ ((Builtin.zeroCells (Value.cells (.agg #[.int .i64 0, .int .i64 0])) (n - (i + 1))).toList) ((i + 1) * 2) (show (i + 1) * 2 + _ ≤ (cs.take (i * 2) ++ new ++ cs.drop (i * 2 + new.length)).length by rw [hl1, hcl, zeroCells_len]; simp [Value.cells]; omega)
    have HP := Lib.hid (show InsPost B TR 2 (.slice (some ⟨g, 0, none⟩) n cap) (i + 1) (xs.take (i * 2) ++ new) w (.returned (.slice (some ⟨g, 0, none⟩) (i + 1) cap)) ((w.setCells g (0 + i * 2) new).setCells g ((i + 1) * 2) (Builtin.zeroCells (Value.cells (.agg #[.int .i64 0, .int .i64 0])) (n - (i + 1))).toList) from
      ⟨_, rfl, row_own hBg (by omega) hcm (by rw [Nat.zero_add]; exact hR2) (by rw [hl2, hl1, hcl]) (by rw [take_under _ _ _ _ (by rw [hl1, hcl]; omega)]; exact ht1), (Kept.sets _ _ _ (Kept.sets _ _ _ (Kept.refl (Only g) w))).mono (fun x _ hx => by rw [show x = g from hx]; rfl), .inl rfl⟩)
    have HR := Lib.hid (hrun (by omega))
    rw [Nat.zero_add] at HP
    clear hr hv hR1 hR2 hl1 hl2 h hcx hcl hci ht1 hrun hxl
    have hd : decide (i + 1 < n) = true := decide_eq_true hn1
    have hcn : ¬ (cap = i + 1) := by omega
    have hne2 : ¬ ((i : Int) = (n : Int)) := by omega
    go_enter Try.func29, Try.ntmps29
    have hcl := HR.out
    rw [Nat.zero_add] at hcl
    go_wp2_with (at_builtin; refine wpList_plain rfl fun _ hK => wp_app_room (.tmp 32) (.tmp 33) 38 (by rfl) info_rg Try.underlying38 (b := g) (off := 0) (n := i) (cap := cap) (by rfl) (ad := ⟨vb, 0, none⟩) (m := 1) (c := vc) (by rfl) HNL.out hvs.out H1V.out (by omega) hsp.out (hK _ _ ?_))
    go_ret
    obtain ⟨V', h1, h2⟩ := HP.out
    cases h1
    exact ⟨_, rfl, h2⟩
end Go.Proofs.Ytkogodoaejoooaa
