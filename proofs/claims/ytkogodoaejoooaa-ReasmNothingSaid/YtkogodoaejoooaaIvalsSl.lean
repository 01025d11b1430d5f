/- The library's slice functions at ranges. -/
import Derived.Test.YtkogodoaejoooaaIvP
import Derived.Test.YtkogodoaejoooaaObj
import Derived.Test.YtkogodoaejoooaaRun
import Derived.Test.YtkogodoaejoooaaProg
namespace Go.Proofs.Ytkogodoaejoooaa
open Go.RowKit
theorem size_rg (w : World) : (Go.sizeOf 48).run Try.prog w = .ok 2 w := by kernel_rfl
theorem info_rg : (Try.prog.info? 48).map (fun i => (i.zero, i.size, i.bytes)) = some (some (.agg #[.int .i64 0, .int .i64 0]), 2, 16) := by kernel_rfl
theorem zero_rg (w : World) : (zeroValue 48).run Try.prog w = .ok (.agg #[.int .i64 0, .int .i64 0]) w := by kernel_rfl
set_option maxHeartbeats 4000000 in
set_option maxRecDepth 100000 in
theorem insert_rg (B : Nat) (V : Value) (n i vb m vc : Nat) (xs new : List Value) (w : World) (h : w.ownsRow B 48 2 V n xs) (hi : i ≤ n) (hm : 0 < m) (hnl : new.length = m * 2) (hv : Rw w vb new 48) (hmc : m ≤ vc) (hvc : vc ≤ 9223372036854775807)
    (hne : V.ownBlock ≠ some vb) (h1c : ∀ u ∈ xs, u.oneCell' = true) (h1v : ∀ u ∈ new, u.oneCell' = true) (hbig : (n + m) * 16 ≤ 140737488355328) (hB : B ≤ w.heap.size) :
    Calls Try.prog 30 #[V, .int .i64 i, .slice (some ⟨vb, 0, none⟩) m vc] w (InsPost B 48 2 V (n + m) (xs.take ((i) * 2) ++ new ++ xs.drop ((i) * 2)) w) := by
  have hz1 : ¬ ((m : Int) = 0) := by omega
  have mixed : Try.prog.follows .mixedOrders = true := by kernel_rfl
  have hxl := h.1
  by_cases hin : i = n
  · subst hin
    obtain ⟨a, c, rfl, hnc, hcm⟩ := (Rd.of_own h).form
    have HO := Lib.hid h
    have HV := Lib.hid (Rd.ofRw hv hnl hmc hvc)
    have hout : xs.take ((i) * 2) ++ new ++ xs.drop ((i) * 2) = xs ++ new := by
      rw [List.take_of_length_le (by omega), List.drop_of_length_le (by omega), List.append_nil]
    rw [hout]
    clear h hv hout hxl
    go_enter Try.func30, Try.ntmps30
    go_wp2_with (at_builtin; refine wpList_appAt rfl (.tmp 23) (.tmp 24) 38 rfl info_rg Try.underlying38 rfl (by decide) HO.out HV.out rfl rfl h1v hbig hB ?_; intro v' w' ho' hg' hb')
    all_goals
      go_ret
      exact ⟨_, rfl, ho', Kept.of_grown hg' fun b hb => (ownBlock_cap _ _ _ _).trans hb, hb'.imp (fun h => h.trans (ownBlock_cap _ _ _ _)) id⟩
  · have hlt : i < n := by omega
    have hz2 : ¬ ((i : Int) = (n : Int)) := by omega
    obtain ⟨g, cap, rfl, _⟩ := own_some h (by omega)
    obtain ⟨hBg, hnc, hcm, _, cs, hr, hcl, hcx⟩ := own_row h
    have hvg : vb ≠ g := fun e => hne (by rw [e]; rfl)
    have hsz : (Try.prog.info? 48).map (·.size) = some 2 := by
      obtain ⟨i0, hi0, h0, h1, h2⟩ := info_parts info_rg
      rw [hi0]; simp [h1]
    have hgl := hr.lt
    have hvl := hv.lt
    have hcs : ∀ j v, xs[j]? = some v → w.cell? ⟨g, j, none⟩ = some v := by
      intro j v hj
      rw [hr.cell]
      rw [← hcx, List.getElem?_take] at hj
      split at hj
      · exact hj
      · cases hj
    have hvs : ∀ j v, new[j]? = some v → w.cell? ⟨vb, j, none⟩ = some v := fun j v hj => by rw [hv.cell]; exact hj
    have hdl : (xs.drop ((i) * 2)).length = (n - i) * 2 := by rw [List.length_drop, hxl]; omega
    have hin' : i ≤ n := by omega
    have hw1 : IntKind.i64.wrap ((i : Int) + (m : Int)) = (i : Int) + (m : Int) := by rw [IntKind.wrap_i64]; omega
    have hb1 : (0 : Int) ≤ (i : Int) + (m : Int) := by omega
    have htn : ((i : Int) + (m : Int)).toNat = i + m := by omega
    by_cases hroom : n + m ≤ cap
    · have hb2 : ¬ (cap = i + m) := by omega
      have hb3 : (i : Int) ≤ (n : Int) + (m : Int) := by omega
      have hb4 : ¬ (cap = i) := by omega
      have hov : ∀ lb cb, (callFunc 31 #[.slice (some ⟨vb, 0, none⟩) m vc, .slice (some ⟨g, (i + m) * 2, none⟩) lb cb]).run Try.prog w = .ok (.value (.bool false)) w := fun lb cb => by
        rw [run_callFunc_extern Try.func31 (by kernel_rfl) (by kernel_rfl) (by kernel_rfl) (e := Extern.SlicesOverlaps.overlaps #[38, 38] #[4]) (by kernel_rfl),
          Lib.run_overlaps_apart w 38 4 48 Try.underlying38 2 size_rg ⟨vb, 0, none⟩ ⟨g, (i + m) * 2, none⟩ m vc lb cb hvg 48 48 new.length cs.length hv.shape hr.shape (by omega) (hv.free _) (hv.free _)]
        rfl
      have hcp1 : ∀ ty dc sc, (Builtin.copy_ #[38, 38] ty #[.slice (some ⟨g, (i + m) * 2, none⟩) (n + m - (i + m)) dc, .slice (some ⟨g, (i) * 2, none⟩) (n + m - i) sc]).run Try.prog w.drew = .ok (goInt (Nat.min (n + m - i) (n + m - (i + m)))) (w.drew.setCells g ((i + m) * 2) (xs.drop ((i) * 2))) := fun ty dc sc =>
        run_copy_k w.drew _ _ ty 48 g ((i + m) * 2) (n + m - (i + m)) dc ⟨g, (i) * 2, none⟩ (n + m - i) sc (xs.drop ((i) * 2)) 2 Try.underlying38 hsz (by rw [hdl]; congr 1; simp only [Nat.min_def]; split <;> omega)
          (fun j v hj => by rw [Addr.add_lit]; refine hcs _ v ?_; rw [List.getElem?_drop] at hj; simpa using hj)
          (fun j hj => by rw [hr.drew.cell, List.getElem?_eq_getElem (by rw [hdl] at hj; rw [hcl]; omega)]; rfl) (fun j hj => hr.drew.free _) (fun v hv => h1c v (List.mem_of_mem_drop hv))
      obtain ⟨W1, hW1⟩ : ∃ W1, W1 = w.drew.setCells g ((i + m) * 2) (xs.drop ((i) * 2)) := ⟨_, rfl⟩
      have hR1 := hr.drew.sets (xs.drop ((i) * 2)) ((i + m) * 2) _ _ (by rw [hdl, hcl]; omega)
      have hl1 := sets_len cs (xs.drop ((i) * 2)) ((i + m) * 2) (by rw [hdl, hcl]; omega)
      have hR2 := hR1.sets new ((i) * 2) _ _ (by rw [hl1, hnl, hcl]; omega)
      have hl2 := sets_len _ new ((i) * 2) (show (i) * 2 + new.length ≤ (cs.take ((i + m) * 2) ++ xs.drop ((i) * 2) ++ cs.drop ((i + m) * 2 + (xs.drop ((i) * 2)).length)).length by rw [hl1, hnl, hcl]; omega)
      have hcp2 : ∀ (W : World), (∀ x, W.cell? x = W1.cell? x) → (∀ x, W.frozen? x = W1.frozen? x) → ∀ ty dc, (Builtin.copy_ #[38, 38] ty #[.slice (some ⟨g, (i) * 2, none⟩) (n + m - i) dc, .slice (some ⟨vb, 0, none⟩) m vc]).run Try.prog W = .ok (goInt (Nat.min m (n + m - i))) (W.setCells g ((i) * 2) new) := fun W hWc hWf ty dc =>
        run_copy_k W _ _ ty 48 g ((i) * 2) (n + m - i) dc ⟨vb, 0, none⟩ m vc new 2 Try.underlying38 hsz (by rw [hnl]; congr 1; simp only [Nat.min_def]; split <;> omega)
          (fun j v hj => by
            rw [Addr.add_lit, Nat.zero_add, hWc, hW1, World.cell?_setCells_out g _ _ _ _ (fun h _ => absurd h hvg)]
            exact hvs j v hj)
          (fun j hj => by rw [hWc, hW1, hR1.cell, List.getElem?_eq_getElem (by rw [hl1, hcl]; rw [hnl] at hj; omega)]; rfl) (fun j hj => by rw [hWf, hW1]; exact hR1.free _) h1v
      have HP := Lib.hid (show InsPost B 48 2 (.slice (some ⟨g, 0, none⟩) n cap) (n + m) (xs.take ((i) * 2) ++ new ++ xs.drop ((i) * 2)) w (.returned (.slice (some ⟨g, 0, none⟩) (n + m) cap)) (W1.setCells g ((i) * 2) new) from
        ⟨_, rfl, row_own hBg (by omega) hcm (by rw [hW1]; exact hR2) (by rw [hl2, hl1, hcl]) (ins_take (I := (i) * 2) (J := (i + m) * 2) (k := m * 2) (N := n * 2) (M := (n + m) * 2) hcx (by omega) hnl (by omega) (by rw [hcl]; omega) (by omega)),
          by rw [hW1]; exact (Kept.sets new ((i) * 2) _ (Kept.sets _ _ _ (Kept.refl (Only g) w).drewR)).mono (fun x _ hx => by rw [show x = g from hx]; rfl), .inl rfl⟩)
      rw [← hW1] at hcp1
      clear hr hv hR1 hR2 hl1 hl2 h hcs hvs hcx hcl
      go_enter Try.func30, Try.ntmps30
      go_wp2_with (simp only [hov])
      go_region_law_o (refine step_copy_runI rfl _ _ 38 38 rfl _ _ (by simp [Act.eval, Act.put]) (by simp [Act.eval, Act.put]) (hcp1 _ _ _) ?_)
      go_wp2_with (at_builtin; refine wpList_copy_runI _ rfl _ _ 38 38 rfl _ _ rfl rfl (hcp2 _ (fun _ => rfl) (fun _ => rfl) _ _) ?_)
      go_ret
      rw [hW1] at HP
      obtain ⟨V', h1, h2⟩ := HP.out
      cases h1
      refine ⟨_, rfl, ?_⟩
      exact h2
    · have hz3 : (cap : Int) < (n : Int) + (m : Int) := by omega
      have hkk : (n : Int) + (m : Int) - (i : Int) = ((n + m - i : Nat) : Int) := by omega
      have hik : i + (n + m - i) = n + m := by omega
      obtain ⟨i0, hi0, hz0, hzs, hzb⟩ := info_parts info_rg
      have hold : (Builtin.firstCells i0.size i (.slice (some ⟨g, 0, none⟩) i cap)).run Try.prog w.drew = .ok (xs.take ((i) * 2)).toArray w.drew := by
        rw [hzs]
        exact run_firstCells_some w.drew 2 i ⟨g, 0, none⟩ i cap (xs.take ((i) * 2)) (by rw [List.length_take]; omega) (fun j v hj => by
          rw [Addr.add_lit, Nat.zero_add]
          rw [List.getElem?_take] at hj
          split at hj
          · exact hcs j v hj
          · cases hj)
      obtain ⟨G, hG⟩ : ∃ G, G = grownCap w (n + m) cap 48 := ⟨_, rfl⟩
      have hGn : n + m ≤ G := by rw [hG]; exact grownCap_ge w _ _ _
      have hG63 : G ≤ 9223372036854775807 := by
        have := grownCap_le_maxLen w (n + m) cap 48 (by unfold maxLen; omega)
        rw [← hG] at this
        unfold maxLen at this
        omega
      have hrz : ∀ ty, (Builtin.append_ #[38, 3] ty #[.slice (some ⟨g, 0, none⟩) i cap, .int .i64 ((n : Int) + (m : Int) - (i : Int))]).run Try.prog w =
          .ok (.slice (some ⟨w.heap.size, 0, none⟩) (n + m) G) (w.drew.alloc (.cells ((xs.take ((i) * 2)).toArray ++ Builtin.zeroCells (Value.cells (.agg #[.int .i64 0, .int .i64 0])) (n + m - i) ++ Builtin.zeroCells (Value.cells (.agg #[.int .i64 0, .int .i64 0])) (G - (n + m))) 48)) := fun ty => by
        have h := Lib.run_append_grow_zeros w 38 3 ty 48 i0 _ .i64 .i64 Try.underlying38 Try.underlying3 hi0 hz0 (some ⟨g, 0, none⟩) i cap (xs.take ((i) * 2)) hold (n + m - i) (by omega) (by rw [hzs]; omega) (by omega) (by omega) (by rw [hzb]; omega) (by rw [hzb, hik]; exact growslice_fits (by omega) hbig)
        rw [hik] at h
        rw [hkk, hG]
        exact h
      obtain ⟨ROW, hROW⟩ : ∃ ROW : Array Value, ROW = (xs.take ((i) * 2)).toArray ++ Builtin.zeroCells (Value.cells (.agg #[.int .i64 0, .int .i64 0])) (n + m - i) ++ Builtin.zeroCells (Value.cells (.agg #[.int .i64 0, .int .i64 0])) (G - (n + m)) := ⟨_, rfl⟩
      rw [← hROW] at hrz
      have hRl : ROW.toList.length = G * 2 := by
        rw [hROW]
        simp only [Array.toList_append, List.length_append, zeroCells_len, List.length_take]
        simp [Value.cells]
        omega
      have hRt : ROW.toList.take ((i) * 2) = xs.take ((i) * 2) := by
        rw [hROW]
        simp only [Array.toList_append, List.append_assoc]
        exact List.take_left' (by rw [List.length_take]; omega)
      obtain ⟨W1, hW1⟩ : ∃ W1, W1 = w.drew.alloc (.cells ROW 48) := ⟨_, rfl⟩
      rw [← hW1] at hrz
      have hRN : Rw W1 w.heap.size ROW.toList 48 := by rw [hW1]; exact Rw.new w.drew ROW 48
      have hOb : ∀ j v, w.cell? ⟨g, j, none⟩ = some v → W1.cell? ⟨g, j, none⟩ = some v := fun j v h => by rw [hW1, World.cell?_alloc_past (w := w.drew) _ g j hgl]; exact h
      have hOv : ∀ j v, w.cell? ⟨vb, j, none⟩ = some v → W1.cell? ⟨vb, j, none⟩ = some v := fun j v h => by rw [hW1, World.cell?_alloc_past (w := w.drew) _ vb j hvl]; exact h
      have hR1 := hRN.sets new ((i) * 2) _ _ (by rw [hRl, hnl]; omega)
      have hl1 := sets_len ROW.toList new ((i) * 2) (by rw [hRl, hnl]; omega)
      have hR2 := hR1.drew.sets (xs.drop ((i) * 2)) ((i + m) * 2) _ _ (by rw [hl1, hRl, hdl]; omega)
      have hl2 := sets_len _ (xs.drop ((i) * 2)) ((i + m) * 2) (show (i + m) * 2 + (xs.drop ((i) * 2)).length ≤ (ROW.toList.take ((i) * 2) ++ new ++ ROW.toList.drop ((i) * 2 + new.length)).length by rw [hl1, hRl, hdl]; omega)
      have hcpA : ∀ (W : World), (∀ x, W.cell? x = W1.cell? x) → (∀ x, W.frozen? x = W1.frozen? x) → ∀ ty dc, (Builtin.copy_ #[38, 38] ty #[.slice (some ⟨w.heap.size, (i) * 2, none⟩) (n + m - i) dc, .slice (some ⟨vb, 0, none⟩) m vc]).run Try.prog W = .ok (goInt (Nat.min m (n + m - i))) (W.setCells w.heap.size ((i) * 2) new) := fun W hWc hWf ty dc =>
        run_copy_k W _ _ ty 48 w.heap.size ((i) * 2) (n + m - i) dc ⟨vb, 0, none⟩ m vc new 2 Try.underlying38 hsz (by rw [hnl]; congr 1; simp only [Nat.min_def]; split <;> omega)
          (fun j v hj => by rw [Addr.add_lit, Nat.zero_add, hWc]; exact hOv _ v (hvs j v hj))
          (fun j hj => by rw [hWc, hRN.cell, List.getElem?_eq_getElem (by rw [hRl]; rw [hnl] at hj; omega)]; rfl) (fun j hj => by rw [hWf]; exact hRN.free _) h1v
      have hgN : g ≠ w.heap.size := by omega
      have hcpB : ∀ (W : World), (∀ x, W.cell? x = (W1.setCells w.heap.size ((i) * 2) new).cell? x) → (∀ x, W.frozen? x = (W1.setCells w.heap.size ((i) * 2) new).frozen? x) → ∀ ty dc sc, (Builtin.copy_ #[38, 38] ty #[.slice (some ⟨w.heap.size, (i + m) * 2, none⟩) (n + m - (i + m)) dc, .slice (some ⟨g, (i) * 2, none⟩) (n - i) sc]).run Try.prog W = .ok (goInt (Nat.min (n - i) (n + m - (i + m)))) (W.setCells w.heap.size ((i + m) * 2) (xs.drop ((i) * 2))) := fun W hWc hWf ty dc sc =>
        run_copy_k W _ _ ty 48 w.heap.size ((i + m) * 2) (n + m - (i + m)) dc ⟨g, (i) * 2, none⟩ (n - i) sc (xs.drop ((i) * 2)) 2 Try.underlying38 hsz (by rw [hdl]; congr 1; simp only [Nat.min_def]; split <;> omega)
          (fun j v hj => by
            rw [Addr.add_lit, hWc, World.cell?_setCells_out _ _ _ _ _ (fun h _ => absurd h hgN)]
            refine hOb _ v (hcs _ v ?_)
            rw [List.getElem?_drop] at hj; simpa using hj)
          (fun j hj => by rw [hWc, hR1.cell, List.getElem?_eq_getElem (by rw [hl1, hRl]; rw [hdl] at hj; omega)]; rfl)
          (fun j hj => by rw [hWf]; exact hR1.free _) (fun v hv => h1c v (List.mem_of_mem_drop hv))
      have HP := Lib.hid (show InsPost B 48 2 (.slice (some ⟨g, 0, none⟩) n cap) (n + m) (xs.take ((i) * 2) ++ new ++ xs.drop ((i) * 2)) w (.returned (.slice (some ⟨w.heap.size, 0, none⟩) (n + m) G)) ((W1.setCells w.heap.size ((i) * 2) new).drew.setCells w.heap.size ((i + m) * 2) (xs.drop ((i) * 2))) from
        ⟨_, rfl, row_own hB hGn hG63 hR2 (by rw [hl2, hl1, hRl]) (ins_grow (I := (i) * 2) (J := (i + m) * 2) (k := m * 2) (N := n * 2) (M := (n + m) * 2) hRt hxl (by omega) hnl (by omega) (by omega)),
          Kept.new_sets (Nat.le_refl _) _ _ _ (Kept.new_sets (Nat.le_refl _) _ _ _ (by rw [hW1]; exact (Kept.refl (Lk _) w).drewR.alloc _)).drewR, .inr rfl⟩)
      have hGi : ¬ (G = i) := by omega
      have hGim : ¬ (G = i + m) := by omega
      have hci : ¬ (cap = i) := by omega
      have hb3 : (i : Int) ≤ (n : Int) := by omega
      subst hW1
      have hE1 : ∀ x, ((w.alloc (.cells ROW 48)).drew).cell? x = (w.drew.alloc (.cells ROW 48)).cell? x := fun x => rfl
      have hE2 : ∀ x, ((w.alloc (.cells ROW 48)).drew).frozen? x = (w.drew.alloc (.cells ROW 48)).frozen? x := fun x => rfl
      have hF1 : ∀ x, (((w.alloc (.cells ROW 48)).drew.setCells w.heap.size ((i) * 2) new).drew).cell? x = ((w.drew.alloc (.cells ROW 48)).setCells w.heap.size ((i) * 2) new).cell? x := fun x => rfl
      have hF2 : ∀ x, (((w.alloc (.cells ROW 48)).drew.setCells w.heap.size ((i) * 2) new).drew).frozen? x = ((w.drew.alloc (.cells ROW 48)).setCells w.heap.size ((i) * 2) new).frozen? x := fun x => rfl
      clear hkk hik hold hROW hG hRl hr hv hR1 hR2 hl1 hl2 h hcs hvs hcx hcl hRN hOb hOv hRt
      go_enter Try.func30, Try.ntmps30
      go_wp2_with (first
        | (at_builtin; refine Lib.wpList_append_run _ rfl _ _ _ _ rfl _ _ rfl rfl _ _ (hrz _) ?_)
        | (at_builtin; refine wpList_copy_runI _ rfl _ _ 38 38 rfl _ _ rfl rfl (hcpA _ hE1 hE2 _ _) ?_)
        | (at_builtin; refine wpList_copy_runI _ rfl _ _ 38 38 rfl _ _ rfl rfl (hcpB _ (fun _ => rfl) (fun _ => rfl) _ _ _) ?_))
      go_region_law_o (refine step_copy_runI rfl _ _ 38 38 rfl (.slice (some ⟨w.heap.size, (i + m) * 2, none⟩) (n + m - (i + m)) (G - (i + m))) (.slice (some ⟨g, (i) * 2, none⟩) (n - i) (cap - i)) (by simp [Act.eval, Act.put]) (by simp [Act.eval, Act.put]) (hcpB _ hF1 hF2 3 (G - (i + m)) (cap - i)) ?_)
      go_wp2
      go_ret
      obtain ⟨V', h1, h2⟩ := HP.out
      cases h1
      refine ⟨_, rfl, ?_⟩
      exact h2
set_option maxHeartbeats 1000000 in
theorem clone_rg (v : Value) (n : Nat) (xs : List Value) (w : World) (h : Rd w 2 v n xs) (h1 : ∀ u ∈ xs, u.oneCell' = true) (hbig : n * 16 ≤ 140737488355328) :
    Calls Try.prog 24 #[v] w fun e w' => ∃ v', e = .returned v' ∧ w'.ownsRow w.heap.size 48 2 v' n xs ∧ Below w.heap.size w w' := by
  rcases h with ⟨rfl, rfl, rfl⟩ | ⟨a, c, rfl, h2, h3, h4, h5⟩
  · go_enter Try.func24, Try.ntmps24
    go_wp2_with fail
    go_ret
    exact ⟨_, rfl, World.ownsRow_nil _ _ _ _, Below.refl _ _⟩
  · have hr : Rd w 2 (.slice (some a) n c) n xs := .inr ⟨a, c, rfl, h2, h3, h4, h5⟩
    have HR := Lib.hid (hr.alloc (.cells #[] 48))
    have HO := Lib.hid (World.ownsRow_made (base := w.heap.size) (e := 48) (size := 2) w #[] 0 (by simp) (by decide) rfl)
    clear hr h4 h5
    go_enter Try.func24, Try.ntmps24
    go_wp2_with (at_builtin; refine wpList_appAt rfl (.tmp 5) (.tmp 6) 38 rfl info_rg Try.underlying38 rfl (by decide) HO.out HR.out rfl rfl h1 (by omega) (by simp) ?_; intro v' w' ho' hg' hb')
    go_ret
    exact ⟨_, rfl, by simpa using ho', ((Below.refl w.heap.size w).alloc (Nat.le_refl _) _).grown hg' (by simp) (fun y hy => (HO.out.lt y hy).1)⟩
def Find_rg (p : Rg → Bool) (l : List Rg) (w : World) (e : Ending) (w' : World) : Prop :=
  Below w.heap.size w w' ∧ ((e = .returned (.int .i64 (-1)) ∧ ∀ y ∈ l, p y = false) ∨ ∃ i : Nat, e = .returned (.int .i64 i) ∧ (∃ h : i < l.length, p l[i] = true) ∧ ∀ y ∈ l.take i, p y = false)
set_option maxHeartbeats 2000000 in
theorem index_rg (g : Nat) (lb : Array Value) (p : Rg → Bool) (l : List Rg) (v : Value) (w : World) (eg : ∀ args w, (callFunc g args).run Try.prog w = .ok (.enter g args) w) (h : Rd w 2 v l.length (l.flatMap Rg.row)) (_ : l.length ≤ 1000000)
    (hp : ∀ (W : World) (x : Rg), Below w.heap.size w W → Calls Try.prog g (#[.agg #[.int .i64 x.f, .int .i64 x.t]] ++ lb) W fun e w' => e = .returned (.bool (p x)) ∧ Below W.heap.size W w') :
    Calls Try.prog 27 #[v, .func (.func g) #[] lb] w (Find_rg p l w) := by
  obtain ⟨a, c, rfl, h1, h2⟩ := h.form
  have HR := Lib.hid h
  have HP := Lib.hid hp
  clear h hp
  go_enter Try.func27, Try.ntmps27
  go_wp2_with fail
  go_loopw [8] (fun i wr => ∃ (j : Nat), i = .int .i64 j ∧ j ≤ l.length ∧ (∀ y ∈ l.take j, p y = false) ∧ Below w.heap.size w wr) (fun i _ => l.length - (intOf i).toNat)
  case atStart => exact ⟨0, rfl, Nat.zero_le _, fun y hy => (by simp at hy), Below.refl _ _⟩
  case round =>
    obtain ⟨j, rfl, hj, ha, hb⟩ := hrel
    have HA := Lib.hid ha
    have HB := Lib.hid hb
    clear ha hb
    by_cases hlt : j < l.length
    · obtain ⟨b, o, rfl, hbl, cw⟩ := Rd.row rowRg (by decide) (HR.out.below HB.out) j hlt
      have HT := Lib.hid (List.take_succ_eq_append_getElem hlt)
      have HY := Lib.hid (show l[j] = l[j] from rfl)
      generalize hx : l[j] = x at cw HT
      have HX := Lib.hid hx
      clear hx HY
      have c0 := cw 0 (.int .i64 x.f) rfl
      have c1 := cw 1 (.int .i64 x.t) rfl
      rw [Nat.add_zero] at c0
      have hcall := HP.out _ x HB.out
      clear cw
      cases hq : p x
      · rw [hq] at hcall
        have HQ := Lib.hid hq
        clear hq
        go_wp2_with (go_at_fn g; refine hcall.mono ?_; rintro e w' ⟨rfl, hb0⟩; have hb' := HB.out.trans (hb0.mono HB.out.size))
        go_roundw
        case rel =>
          refine ⟨j + 1, by go_num, by omega, fun y hy => ?_, hb'⟩
          rw [HT.out] at hy
          rcases List.mem_append.1 hy with hy | hy
          · exact HA.out y hy
          · rw [List.mem_singleton] at hy; subst hy; exact HQ.out
        case measure => simp [intOf]; omega
      · rw [hq] at hcall
        have HQ := Lib.hid hq
        clear hq
        go_wp2_with (go_at_fn g; refine hcall.mono ?_; rintro e w' ⟨rfl, hb0⟩; have hb' := HB.out.trans (hb0.mono HB.out.size))
        go_ret
        exact ⟨hb', .inr ⟨j, rfl, ⟨hlt, by rw [HX.out]; exact HQ.out⟩, HA.out⟩⟩
    · obtain rfl : j = l.length := by omega
      go_wp2_with fail
      go_ret
      exact ⟨HB.out, .inl ⟨rfl, fun y hy => HA.out y (by rw [List.take_length]; exact hy)⟩⟩
end Go.Proofs.Ytkogodoaejoooaa
