/- slices.Replace of a part in the midst by one range. -/
import Derived.Test.YtkogodoaejoooaaIvalsRe
namespace Go.Proofs.Ytkogodoaejoooaa
open Go.RowKit

theorem run_clear0 {P : Program} {w : World} {t e ty : TypeId} (ht : P.underlying t = some (.slice e)) (a : Option Addr) (c : Nat) : (Builtin.clear_ #[t] ty #[.slice a 0 c]).run P w = .ok (.tuple #[]) w := by
  cases a <;> simp [Builtin.clear_, run_underlying ht]
theorem Rw.dn {w : World} {g : Nat} {cs : List Value} {T : TypeId} (h : Rw w g cs T) : ∀ q, Rw (w.drewN q) g cs T
  | 0 => h
  | q + 1 => Rw.dn h.drew q
set_option maxRecDepth 100000 in
set_option maxHeartbeats 4000000 in
theorem replace_mid (B : Nat) (V : Value) (n i j vb vc : Nat) (xs new : List Value) (w : World) (h : w.ownsRow B TR 2 V n xs) (hi : i < j) (hj : j < n) (hnl : new.length = 2) (hv : Rw w vb new TR) (_ : 1 ≤ vc) (_ : vc ≤ 9223372036854775807)
    (hne : V.ownBlock ≠ some vb) (h1c : ∀ u ∈ xs, u.oneCell' = true) (h1v : ∀ u ∈ new, u.oneCell' = true) (hn : n ≤ 1000000) :
    Calls Try.prog 29 #[V, .int .i64 i, .int .i64 j, .slice (some ⟨vb, 0, none⟩) 1 vc] w (InsPost B TR 2 V (i + 1 + (n - j)) (xs.take (i * 2) ++ new ++ xs.drop (j * 2)) w) := by
  have hxl := h.1
  obtain ⟨g, cap, rfl, _⟩ := own_some h (by omega)
  obtain ⟨hBg, hnc, hcm, _, cs, hr, hcl, hcx⟩ := own_row h
  have hvg : vb ≠ g := fun e => hne (by rw [e]; rfl)
  have HR := Lib.hid hr
  have HV := Lib.hid hv
  have HCX := Lib.hid hcx
  have HX := Lib.hid hxl
  have hij : i ≤ j := by omega
  have hic : i ≤ cap := by omega
  have hjc : j ≤ cap := by omega
  have hci : ¬ (cap = i) := by omega
  have hcj : ¬ (cap = j) := by omega
  have hij2 : ((i : Int) == (j : Int)) = false := by rw [beq_eq_false_iff_ne]; omega
  have hjn2 : ((j : Int) == (n : Int)) = false := by rw [beq_eq_false_iff_ne]; omega
  have H1C := Lib.hid h1c
  have H1V := Lib.hid h1v
  clear hr hv hcx hxl h h1c h1v hne
  go_enter Try.func29, Try.ntmps29
  go_wp2_with fail
  refine wp_region_quiet_lit (by kernel_rfl) (by kernel_rfl) ?_
  try simp only [List.append]
  repeat (first | go_big_quiet_step (fail) | quiet_step (fail))
  refine wpQuiet_nil ?_
  intro W hW
  obtain ⟨q, rfl⟩ := hW
  obtain ⟨N, HN⟩ : ∃ N, Hid (i + 1 + (n - j) = N) := ⟨_, Lib.hid rfl⟩
  rw [show ((i : Int) + 1 + ((n - j : Nat) : Int)) = ((N : Nat) : Int) by rw [← HN.out]; omega, HN.out]
  have hN1 : i + 1 < N := by have := HN.out; omega
  have hN2 : N ≤ n := by have := HN.out; omega
  have HN3 : Hid (n - j = N - (i + 1)) := Lib.hid (by have := HN.out; omega)
  have hR0 := HR.out.dn q
  have hV0 := HV.out.dn q
  have HK1 := Lib.hid (Kept.dn (Only g) w q)
  generalize w.drewN q = W at *
  have hsz : (Try.prog.info? TR).map (·.size) = some 2 := by
    obtain ⟨i0, hi0, h0, h1, h2⟩ := info_parts info_rg
    rw [hi0]; simp [h1]
  have hcp1 : ∀ ty dc, (Builtin.copy_ #[38, 38] ty #[.slice (some ⟨g, i * 2, none⟩) (N - i) dc, .slice (some ⟨vb, 0, none⟩) 1 vc]).run Try.prog W = .ok (goInt (Nat.min 1 (N - i))) (W.setCells g (i * 2) new) := fun ty dc =>
    run_copy_k W _ _ ty TR g (i * 2) (N - i) dc ⟨vb, 0, none⟩ 1 vc new 2 Try.underlying38 hsz (by rw [hnl, show Nat.min 1 (N - i) = 1 from Nat.min_eq_left (by omega)])
      (fun t v ht => by rw [Addr.add_lit, Nat.zero_add, hV0.cell]; exact ht)
      (fun t ht => by rw [hR0.cell, List.getElem?_eq_getElem (by omega)]; rfl) (fun t ht => hR0.free _) H1V.out
  have HCP1 := Lib.hid hcp1
  have hR1 := hR0.sets new (i * 2) _ _ (by omega)
  have hl1 := sets_len cs new (i * 2) (by omega)
  have hnd : cs.drop (i * 2 + new.length) = cs.drop ((i + 1) * 2) := by rw [hnl]; congr 1; omega
  have HK2 := Lib.hid (HK1.out.sets new (i * 2) _)
  have hD : (xs.drop (j * 2)).length = (N - (i + 1)) * 2 := by rw [List.length_drop, HX.out, ← HN3.out]; omega
  have hsrc : ∀ t v, (xs.drop (j * 2))[t]? = some v → (W.setCells g (i * 2) new).cell? ⟨g, j * 2 + t, none⟩ = some v := fun t v ht => by
    rw [World.cell?_setCells_out g _ _ _ _ (fun _ _ => .inr (by show _ ≤ j * 2 + t; omega)), hR0.cell]
    rw [List.getElem?_drop, ← HCX.out, List.getElem?_take] at ht
    split at ht
    · exact ht
    · cases ht
  have hHR1 := Lib.hid hR1
  have hHS := Lib.hid hsrc
  have HNL := Lib.hid hnl
  have HD := Lib.hid hD
  clear hcp1 hR1 hsrc hD hR0 hV0
  have hd1 : decide (cap < N) = false := decide_eq_false (by omega)
  have hd2 : decide (i + 1 ≤ j) = true := decide_eq_true (by omega)
  have hci1 : ¬ (cap = i + 1) := by omega
  have hNc : N ≤ cap := by omega
  have hiN : i ≤ N := by omega
  have hi1N : i + 1 ≤ N := by omega
  go_wp2_with (refine wpList_copy_runI _ rfl (.tmp 95) (.tmp 96) 38 38 rfl _ _ rfl rfl (HCP1.out _ _) ?_; simp only [Act.put, List.setIfInBounds_toArray, List.set_cons_zero, List.set_cons_succ])
  generalize W.setCells g (i * 2) new = W1 at *
  have HK3 := Lib.hid (HK2.out.drewR)
  have hR1 := hHR1.out.drew
  have hcp2 : ∀ ty dc sc, (Builtin.copy_ #[38, 38] ty #[.slice (some ⟨g, (i + 1) * 2, none⟩) (N - (i + 1)) dc, .slice (some ⟨g, j * 2, none⟩) (n - j) sc]).run Try.prog W1.drew = .ok (goInt (Nat.min (n - j) (N - (i + 1)))) (W1.drew.setCells g ((i + 1) * 2) (xs.drop (j * 2))) := fun ty dc sc =>
    run_copy_k W1.drew _ _ ty TR g ((i + 1) * 2) (N - (i + 1)) dc ⟨g, j * 2, none⟩ (n - j) sc (xs.drop (j * 2)) 2 Try.underlying38 hsz (by rw [HD.out, HN3.out, show Nat.min (N - (i + 1)) (N - (i + 1)) = N - (i + 1) from Nat.min_self _])
      (fun t v ht => by rw [Addr.add_lit]; exact hHS.out t v ht)
      (fun t ht => by rw [hR1.cell, List.getElem?_eq_getElem (by rw [hl1]; rw [HD.out] at ht; omega)]; rfl) (fun t ht => hR1.free _) (fun v hv => H1C.out v (List.mem_of_mem_drop hv))
  have HCP2 := Lib.hid hcp2
  have hR2 := hR1.sets (xs.drop (j * 2)) ((i + 1) * 2) _ _ (by rw [hl1, HD.out]; omega)
  have hl2 := sets_len _ (xs.drop (j * 2)) ((i + 1) * 2) (show (i + 1) * 2 + _ ≤ (cs.take (i * 2) ++ new ++ cs.drop (i * 2 + new.length)).length by rw [hl1, HD.out]; omega)
  have HK4 := Lib.hid (HK3.out.sets (xs.drop (j * 2)) ((i + 1) * 2) _)
  have hci2 : cs.take (i * 2) = xs.take (i * 2) := by rw [← HCX.out, List.take_take, Nat.min_eq_left (by omega)]
  have hT := rep_take (R := cs) (new := new) (D := xs.drop (j * 2)) (I := i * 2) (k := 2) (J := (i + 1) * 2) (M := N * 2) HNL.out (by omega) (by omega) (by rw [HD.out]; omega)
  have hT := hT.trans (by rw [hci2] : _ = xs.take (i * 2) ++ new ++ xs.drop (j * 2))
  have hR2' := Lib.hid hR2
  have HT := Lib.hid hT
  have HL2 := Lib.hid (hl2.trans hl1)
  clear hcp2 hR1 hR2 hl1 hl2 hT hci2 hnd
  have hw1 : IntKind.i64.wrap ((i : Int) + 1) = (i : Int) + 1 := by rw [IntKind.wrap_i64]; omega
  have hb1 : (0 : Int) ≤ (i : Int) + 1 := by omega
  have hb3 : (i : Int) + 1 ≤ (N : Int) := by omega
  have htn : ((i : Int) + 1).toNat = i + 1 := by omega
  refine wp_stands (M := (Only g)) (by kernel_rfl) ?_
  refine st_quiet [true, true, true, true, true, true, true, true, true, false] (by kernel_rfl) ?_
  simp only [pickAt]
  repeat (go_big_quiet_step (fail))
  refine wpQuiet_nil ?_
  refine st_act 9 rfl (by kernel_rfl) ?_
  refine run_want rfl ?_
  intro A hA
  refine wp_copy_runI _ (.tmp 103) (.tmp 106) 38 38 (by rfl) _ _ (by rfl) (by rfl) (HCP2.out _ _ _) ?_
  refine hA _ _ ((Kept.refl _ _).sets _ _ _) ?_
  try simp only [Act.put, List.setIfInBounds_toArray, List.set_cons_zero, List.set_cons_succ]
  clear A hA
  refine st_done (by kernel_rfl) ?_
  obtain ⟨cs2, HC2⟩ : ∃ cs2, Hid (Rw (W1.drew.setCells g ((i + 1) * 2) (xs.drop (j * 2))) g cs2 TR ∧ cs2.take (N * 2) = xs.take (i * 2) ++ new ++ xs.drop (j * 2) ∧ cs2.length = cap * 2) := ⟨_, Lib.hid ⟨hR2'.out, HT.out, HL2.out.trans hcl⟩⟩
  clear hR2' HT HL2 HCP2 HCP1 hHR1 hHS
  generalize W1.drew.setCells g ((i + 1) * 2) (xs.drop (j * 2)) = W2 at *
  have HP := Lib.hid (show ∀ W', Kept (Only g) w W' → (∃ cs3, Rw W' g cs3 TR ∧ cs3.take (N * 2) = xs.take (i * 2) ++ new ++ xs.drop (j * 2) ∧ cs3.length = cap * 2) → InsPost B TR 2 (.slice (some ⟨g, 0, none⟩) n cap) (i + 1 + (n - j)) (xs.take (i * 2) ++ (new ++ xs.drop (j * 2))) w (.returned (.slice (some ⟨g, 0, none⟩) N cap)) W' from
    fun W' hk ⟨cs3, h1, h2, h3⟩ => by
      rw [HN.out, ← List.append_assoc]
      exact ⟨_, rfl, row_own hBg (by omega) hcm h1 h3 h2, hk.mono (fun x _ hx => by rw [show x = g from hx]; rfl), .inl rfl⟩)
  rcases (by omega : N = n ∨ N < n) with hNn | hNn
  · have hc0 : ∀ ty a c, (Builtin.clear_ #[38] ty #[.slice a 0 c]).run Try.prog W2 = .ok (.tuple #[]) W2 := fun ty a c => run_clear0 Try.underlying38 a c
    have HP' := Lib.hid (HP.out W2 HK4.out ⟨cs2, HC2.out⟩)
    clear HP
    subst hNn
    go_wp2_with fail
    all_goals
      go_ret
      obtain ⟨V', h1, h2⟩ := HP'.out
      cases h1
      first
        | exact ⟨_, rfl, h2⟩
        | (rw [show cap = N by omega] at h2; exact ⟨_, rfl, h2⟩)
        | (rw [← List.append_assoc] at h2; exact ⟨_, rfl, h2⟩)
        | (simp only [Value.cells] at h2; rw [← List.append_assoc] at h2; exact ⟨_, rfl, h2⟩)
  · have hcn : ¬ (cap = N) := by omega
    have hcl9 : ∀ ty c, (Builtin.clear_ #[38] ty #[.slice (some ⟨g, N * 2, none⟩) (n - N) c]).run Try.prog W2 = .ok (.tuple #[]) (W2.setCells g (N * 2) (Builtin.zeroCells (Value.cells (.agg #[.int .i64 0, .int .i64 0])) (n - N)).toList) := fun ty c =>
      run_clear Try.underlying38 zero_rg (by simp [Value.cells, Value.oneCell']) (by omega) HC2.out.1 (by rw [HC2.out.2.2]; simp [Value.cells]; omega)
    have HP' := Lib.hid (HP.out (W2.setCells g (N * 2) (Builtin.zeroCells (Value.cells (.agg #[.int .i64 0, .int .i64 0])) (n - N)).toList) (HK4.out.sets _ _ _) ⟨_, HC2.out.1.sets _ _ _ _ (by rw [HC2.out.2.2, zeroCells_len]; simp [Value.cells]; omega), by rw [take_under _ _ _ _ (by rw [HC2.out.2.2]; omega)]; exact HC2.out.2.1, by rw [sets_len _ _ _ (by rw [HC2.out.2.2, zeroCells_len]; simp [Value.cells]; omega)]; exact HC2.out.2.2⟩)
    clear HP
    have hNn1 : N ≤ n := by omega
    go_wp2_with fail
    all_goals
      go_ret
      obtain ⟨V', h1, h2⟩ := HP'.out
      cases h1
      first
        | exact ⟨_, rfl, h2⟩
        | (rw [show cap = N by omega] at h2; exact ⟨_, rfl, h2⟩)
        | (rw [← List.append_assoc] at h2; exact ⟨_, rfl, h2⟩)
        | (simp only [Value.cells] at h2; rw [← List.append_assoc] at h2; exact ⟨_, rfl, h2⟩)
/-- a part, taken out for one range -/
theorem replace_rg (B : Nat) (V : Value) (n i j vb vc : Nat) (xs new : List Value) (w : World) (h : w.ownsRow B TR 2 V n xs) (hi : i ≤ j) (hj : j ≤ n) (hnl : new.length = 2) (hv : Rw w vb new TR) (hmc : 1 ≤ vc) (hvc : vc ≤ 9223372036854775807)
    (hne : V.ownBlock ≠ some vb) (h1c : ∀ u ∈ xs, u.oneCell' = true) (h1v : ∀ u ∈ new, u.oneCell' = true) (hn : n ≤ 1000000) (hB : B ≤ w.heap.size) :
    Calls Try.prog 29 #[V, .int .i64 i, .int .i64 j, .slice (some ⟨vb, 0, none⟩) 1 vc] w (InsPost B TR 2 V (i + 1 + (n - j)) (xs.take (i * 2) ++ new ++ xs.drop (j * 2)) w) := by
  rcases Nat.lt_or_eq_of_le hi with h1 | rfl
  · rcases Nat.lt_or_eq_of_le hj with h2 | rfl
    · exact replace_mid B V n i j vb vc xs new w h h1 h2 hnl hv hmc hvc hne h1c h1v hn
    · have h3 := replace_end B V j i vb vc xs new w h h1 hnl hv hmc hvc hne h1v
      rw [List.drop_of_length_le (by have := h.1; omega), List.append_nil, Nat.sub_self]
      exact h3
  · exact replace_same B V n i vb vc xs new w h hj hnl hv hmc hvc hne h1c h1v (by omega) hB
end Go.Proofs.Ytkogodoaejoooaa
