/- The library's slice functions at uint64. -/
import Derived.Test.YtgfkgbampoocdaaGreatDoorIns
import Derived.Test.YtgfkgbampoocdaaGreatDoorProg
namespace Go.Proofs.YtgfkgbampoocdaaGreatDoor
open Go.RowKit
theorem size_u64 (w : World) : (Go.sizeOf 23).run Tryz.prog w = .ok 1 w := by kernel_rfl
theorem info_u64 : (Tryz.prog.info? 23).map (fun i => (i.zero, i.size, i.bytes)) = some (some (.int .u64 0), 1, 8) := by kernel_rfl
theorem zero_u64 (w : World) : (zeroValue 23).run Tryz.prog w = .ok (.int .u64 0) w := by kernel_rfl
def DelPost (g n cap i j : Nat) (cs : List Value) (T : TypeId) (k : Nat) (w : World) (e : Ending) (w' : World) : Prop :=
  e = .returned (.slice (some ⟨g, 0, none⟩) (n - (j - i)) cap) ∧ Kept (Only g) w w' ∧ ∃ cs', Rw w' g cs' T ∧ cs'.length = cs.length ∧ cs'.take ((n - (j - i)) * k) = cs.take (i * k) ++ (cs.take (n * k)).drop (j * k)
set_option maxHeartbeats 1000000 in
theorem delete_u64 (g n cap i j : Nat) (cs : List Value) (w : World) (hr : Rw w g cs 23) (hl : cs.length = cap * 1) (hn : n ≤ cap) (hm : cap ≤ 9223372036854775807) (hij : i ≤ j) (hj : j ≤ n) (h1c : ∀ u ∈ cs.take (n * 1), u.oneCell' = true) :
    Calls Tryz.prog 74 #[.slice (some ⟨g, 0, none⟩) n cap, .int .i64 i, .int .i64 j] w (DelPost g n cap i j cs 23 1 w) := by
  by_cases heq : i = j
  · subst heq
    have hp : DelPost g n cap i i cs 23 1 w (.returned (.slice (some ⟨g, 0, none⟩) n cap)) w :=
      ⟨by rw [Nat.sub_self, Nat.sub_zero], Kept.refl _ _, cs, hr, rfl, by
        rw [Nat.sub_self, Nat.sub_zero]
        have h2 : cs.take (i * 1) = (cs.take (n * 1)).take (i * 1) := by rw [List.take_take, Nat.min_eq_left (by omega)]
        rw [h2, List.take_append_drop]⟩
    have HP := Lib.hid hp
    clear hp hr
    go_enter Tryz.func74, Tryz.ntmps74
    go_wp2
    all_goals (go_ret; first | exact HP.out | (rw [show n = i by omega] at HP; exact HP.out))
  · have hlt : i < j := by omega
    obtain ⟨news, hnews⟩ : ∃ news, news = (cs.take (n * 1)).drop (j * 1) := ⟨_, rfl⟩
    have hnl : news.length = (n - j) * 1 := by rw [hnews, List.length_drop, List.length_take, hl]; omega
    have hn1 : ∀ u ∈ news, u.oneCell' = true := fun u hu => h1c u (by rw [hnews] at hu; exact List.mem_of_mem_drop hu)
    have hget : ∀ t u, news[t]? = some u → cs[j * 1 + t]? = some u := by
      intro t u hu
      rw [hnews, List.getElem?_drop, List.getElem?_take] at hu
      split at hu
      · exact hu
      · cases hu
    obtain ⟨ad, had, hsrc⟩ : ∃ ad : Addr, Hid ((if cap = j then some (⟨g, 0, none⟩ : Addr) else some ⟨g, j, none⟩) = some ad) ∧ Hid (∀ t u, news[t]? = some u → w.drew.cell? (ad.add t) = some u) := by
      by_cases h : cap = j
      · refine ⟨⟨g, 0, none⟩, if_pos h, fun t u hu => ?_⟩
        have h0 : news.length = 0 := by rw [hnl]; omega
        rw [List.length_eq_zero_iff.1 h0] at hu
        simp at hu
      · refine ⟨⟨g, j, none⟩, if_neg h, fun t u hu => ?_⟩
        rw [addr_add, hr.drew.cell, ← hget t u hu, Nat.mul_one]
    have hW1 := hr.drew.sets news (i * 1) _ _ (by rw [hnl, hl]; omega)
    have hcl2 : (cs.take (i * 1) ++ news ++ cs.drop (i * 1 + news.length)).length = cs.length := by
      rw [List.length_append, List.length_append, List.length_take, List.length_drop]; rw [hnl, hl]; omega
    have hsp : Hid (∀ t, t < news.length → (w.drew.cell? ⟨g, 0 + i * 1 + t, none⟩).isSome = true ∧ w.drew.frozen? ⟨g, 0 + i * 1 + t, none⟩ = false) := by
      intro t ht
      rw [hnl] at ht
      rw [hr.drew.cell, List.getElem?_eq_getElem (by rw [hl]; omega)]
      exact ⟨rfl, hr.drew.free _⟩
    have hrun : ∀ ty c, (Builtin.clear_ #[22] ty #[.slice (some ⟨g, (i + (n - j)), none⟩) (n - (i + (n - j))) c]).run Tryz.prog (w.drew.setCells g (0 + i * 1) news) = .ok (.tuple #[]) ((w.drew.setCells g (0 + i * 1) news).setCells g ((i + (n - j))) (Builtin.zeroCells (Value.cells (.int .u64 0)) (n - (i + (n - j)))).toList) := by
      intro ty c
      rw [Nat.zero_add]
      exact run_clear Tryz.underlying22 zero_u64 (by simp [Value.cells, Value.oneCell']) (by omega) hW1 (by rw [hcl2, hl]; simp [Value.cells]; omega)
    have hW2 := hW1.sets ((Builtin.zeroCells (Value.cells (.int .u64 0)) (n - (i + (n - j)))).toList) ((i + (n - j))) _ _ (by rw [hcl2, hl, zeroCells_len]; simp [Value.cells]; omega)
    have HL := Lib.hid (show _ = cs.length from by
      have e := (del_len (cs.take (i * 1) ++ news ++ cs.drop (i * 1 + news.length)) (Builtin.zeroCells (Value.cells (.int .u64 0)) (n - (i + (n - j)))).toList ((i + (n - j))) (by rw [hcl2, hl, zeroCells_len]; simp only [Value.cells]; show _ + _ * 1 ≤ _; omega))
      exact e.trans hcl2)
    have HT : Hid ((((cs.take (i * 1) ++ news ++ cs.drop (i * 1 + news.length)).take ((i + (n - j))) ++ (Builtin.zeroCells (Value.cells (.int .u64 0)) (n - (i + (n - j)))).toList ++ (cs.take (i * 1) ++ news ++ cs.drop (i * 1 + news.length)).drop ((i + (n - j)) + (Builtin.zeroCells (Value.cells (.int .u64 0)) (n - (i + (n - j)))).toList.length)).take ((n - (j - i)) * 1)) = cs.take (i * 1) ++ (cs.take (n * 1)).drop (j * 1)) := Lib.hid (show _ = cs.take (i * 1) ++ (cs.take (n * 1)).drop (j * 1) from by
      rw [← hnews]
      exact del_take (cs.take (i * 1)) news (cs.drop (i * 1 + news.length)) (Builtin.zeroCells (Value.cells (.int .u64 0)) (n - (i + (n - j)))).toList ((i + (n - j))) _ ((n - (j - i)) * 1) (by rw [List.length_take, hnl, hl]; omega) (by omega))
    have HR := Lib.hid hrun
    have HN := Lib.hid hnl
    have HN1 := Lib.hid hn1
    have HC := Lib.hid h1c
    clear hrun hnl h1c hget hW1 hcl2 hl hnews hr hn1
    have hic : i ≤ cap := by omega
    have hjc : j ≤ cap := by omega
    go_enter Tryz.func74, Tryz.ntmps74
    go_wp2_with fail
    refine wp_stands (M := (Only g)) (by kernel_rfl) ?_
    refine st_quiet [true, true, true, true, true, true, false, false] (by kernel_rfl) ?_
    simp only [pickAt]
    repeat (go_big_quiet_step (fail))
    refine wpQuiet_nil ?_
    refine st_act 6 rfl (by kernel_rfl) ?_
    refine run_want rfl ?_
    intro A hA
    refine wp_app_room (.tmp 22) (.tmp 25) 22 (by rfl) info_u64 Tryz.underlying22 (b := g) (off := 0) (n := i) (cap := cap) (by rfl) (ad := ad) (m := n - j) (c := cap - j) (congrArg (fun x => Value.slice x (n - j) (cap - j)) had.out) HN.out hsrc.out HN1.out (by omega) hsp.out ?_
    refine hA _ _ ((Kept.refl _ _).sets _ _ _) ?_
    try simp only [Act.put, List.setIfInBounds_toArray, List.set_cons_zero, List.set_cons_succ]
    clear A hA
    have HK := Lib.hid ((Kept.refl (Only g) w).drewR.sets news (0 + i * 1) _)
    have HW := Lib.hid hW2
    clear hW2
    refine st_quiet [false, false, false, false, false, false, false, true] (by kernel_rfl) ?_
    simp only [pickAt]
    repeat (go_big_quiet_step (fail))
    refine wpQuiet_nil ?_
    refine st_done (by kernel_rfl) ?_
    have hcl := HR.out
    rw [Nat.zero_add] at *
    generalize w.drew.setCells g (i * 1) news = W1 at *
    have HP := Lib.hid (show DelPost g n cap i j cs 23 1 w (.returned (.slice (some ⟨g, 0, none⟩) (i + (n - j)) cap)) _ from ⟨by rw [show n - (j - i) = i + (n - j) by omega], HK.out.sets _ _ _, _, HW.out, HL.out, HT.out⟩)
    go_wp2_with fail
    all_goals (go_ret; first | exact HP.out | (rw [show cap = j by omega] at HP; exact HP.out))
set_option maxHeartbeats 4000000 in
set_option maxRecDepth 100000 in
theorem insert_u64 (B : Nat) (V : Value) (n i vb m vc : Nat) (xs new : List Value) (w : World) (h : w.ownsRow B 23 1 V n xs) (hi : i ≤ n) (hm : 0 < m) (hnl : new.length = m * 1) (hv : Rw w vb new 23) (hmc : m ≤ vc) (hvc : vc ≤ 9223372036854775807)
    (hne : V.ownBlock ≠ some vb) (h1c : ∀ u ∈ xs, u.oneCell' = true) (h1v : ∀ u ∈ new, u.oneCell' = true) (hbig : (n + m) * 8 ≤ 140737488355328) (hB : B ≤ w.heap.size) :
    Calls Tryz.prog 30 #[V, .int .i64 i, .slice (some ⟨vb, 0, none⟩) m vc] w (InsPost B 23 1 V (n + m) (xs.take (i) ++ new ++ xs.drop (i)) w) := by
  have hz1 : ¬ ((m : Int) = 0) := by omega
  have mixed : Tryz.prog.follows .mixedOrders = true := by kernel_rfl
  have hxl := h.1
  by_cases hin : i = n
  · subst hin
    obtain ⟨a, c, rfl, hnc, hcm⟩ := (Rd.of_own h).form
    have HO := Lib.hid h
    have HV := Lib.hid (Rd.ofRw hv hnl hmc hvc)
    have hout : xs.take (i) ++ new ++ xs.drop (i) = xs ++ new := by
      rw [List.take_of_length_le (by omega), List.drop_of_length_le (by omega), List.append_nil]
    rw [hout]
    clear h hv hout hxl
    go_enter Tryz.func30, Tryz.ntmps30
    go_wp2_with (at_builtin; refine wpList_appAt rfl (.tmp 23) (.tmp 24) 22 rfl info_u64 Tryz.underlying22 rfl (by decide) HO.out HV.out rfl rfl h1v hbig hB ?_; intro v' w' ho' hg' hb')
    all_goals
      go_ret
      exact ⟨_, rfl, ho', Kept.of_grown hg' fun b hb => (ownBlock_cap _ _ _ _).trans hb, hb'.imp (fun h => h.trans (ownBlock_cap _ _ _ _)) id⟩
  · have hlt : i < n := by omega
    have hz2 : ¬ ((i : Int) = (n : Int)) := by omega
    obtain ⟨g, cap, rfl, _⟩ := own_some h (by omega)
    obtain ⟨hBg, hnc, hcm, _, cs, hr, hcl, hcx⟩ := own_row h
    have hvg : vb ≠ g := fun e => hne (by rw [e]; rfl)
    have hsz : (Tryz.prog.info? 23).map (·.size) = some 1 := by
      obtain ⟨i0, hi0, h0, h1, h2⟩ := info_parts info_u64
      rw [hi0]; simp [h1]
    have hgl := hr.lt
    have hvl := hv.lt
    have hcs : ∀ j v, xs[j]? = some v → w.cell? ⟨g, j, none⟩ = some v := by
      intro j v hj
      rw [hr.cell]
      rw [← hcx, List.getElem?_take] at hj
      split at hj
      · exact hj
      · cases hj
    have hvs : ∀ j v, new[j]? = some v → w.cell? ⟨vb, j, none⟩ = some v := fun j v hj => by rw [hv.cell]; exact hj
    have hdl : (xs.drop (i)).length = (n - i) * 1 := by rw [List.length_drop, hxl]; omega
    have hin' : i ≤ n := by omega
    have hw1 : IntKind.i64.wrap ((i : Int) + (m : Int)) = (i : Int) + (m : Int) := by rw [IntKind.wrap_i64]; omega
    have hb1 : (0 : Int) ≤ (i : Int) + (m : Int) := by omega
    have htn : ((i : Int) + (m : Int)).toNat = i + m := by omega
    by_cases hroom : n + m ≤ cap
    · have hb2 : ¬ (cap = i + m) := by omega
      have hb3 : (i : Int) ≤ (n : Int) + (m : Int) := by omega
      have hb4 : ¬ (cap = i) := by omega
      have hov : ∀ lb cb, (callFunc 72 #[.slice (some ⟨vb, 0, none⟩) m vc, .slice (some ⟨g, i + m, none⟩) lb cb]).run Tryz.prog w = .ok (.value (.bool false)) w := fun lb cb => by
        rw [run_callFunc_extern Tryz.func72 (by kernel_rfl) (by kernel_rfl) (by kernel_rfl) (e := Extern.SlicesOverlaps.overlaps #[22, 22] #[4]) (by kernel_rfl),
          Lib.run_overlaps_apart w 22 4 23 Tryz.underlying22 1 size_u64 ⟨vb, 0, none⟩ ⟨g, i + m, none⟩ m vc lb cb hvg 23 23 new.length cs.length hv.shape hr.shape (by omega) (hv.free _) (hv.free _)]
        rfl
      have hcp1 : ∀ ty dc sc, (Builtin.copy_ #[22, 22] ty #[.slice (some ⟨g, i + m, none⟩) (n + m - (i + m)) dc, .slice (some ⟨g, i, none⟩) (n + m - i) sc]).run Tryz.prog w.drew = .ok (goInt (Nat.min (n + m - i) (n + m - (i + m)))) (w.drew.setCells g (i + m) (xs.drop (i))) := fun ty dc sc =>
        run_copy_k w.drew _ _ ty 23 g (i + m) (n + m - (i + m)) dc ⟨g, i, none⟩ (n + m - i) sc (xs.drop (i)) 1 Tryz.underlying22 hsz (by rw [hdl]; congr 1; simp only [Nat.min_def]; split <;> omega)
          (fun j v hj => by rw [Addr.add_lit]; refine hcs _ v ?_; rw [List.getElem?_drop] at hj; simpa using hj)
          (fun j hj => by rw [hr.drew.cell, List.getElem?_eq_getElem (by rw [hdl] at hj; rw [hcl]; omega)]; rfl) (fun j hj => hr.drew.free _) (fun v hv => h1c v (List.mem_of_mem_drop hv))
      obtain ⟨W1, hW1⟩ : ∃ W1, W1 = w.drew.setCells g (i + m) (xs.drop (i)) := ⟨_, rfl⟩
      have hR1 := hr.drew.sets (xs.drop (i)) (i + m) _ _ (by rw [hdl, hcl]; omega)
      have hl1 := sets_len cs (xs.drop (i)) (i + m) (by rw [hdl, hcl]; omega)
      have hR2 := hR1.sets new (i) _ _ (by rw [hl1, hnl, hcl]; omega)
      have hl2 := sets_len _ new (i) (show i + new.length ≤ (cs.take (i + m) ++ xs.drop (i) ++ cs.drop (i + m + (xs.drop (i)).length)).length by rw [hl1, hnl, hcl]; omega)
      have hcp2 : ∀ (W : World), (∀ x, W.cell? x = W1.cell? x) → (∀ x, W.frozen? x = W1.frozen? x) → ∀ ty dc, (Builtin.copy_ #[22, 22] ty #[.slice (some ⟨g, i, none⟩) (n + m - i) dc, .slice (some ⟨vb, 0, none⟩) m vc]).run Tryz.prog W = .ok (goInt (Nat.min m (n + m - i))) (W.setCells g (i) new) := fun W hWc hWf ty dc =>
        run_copy_k W _ _ ty 23 g (i) (n + m - i) dc ⟨vb, 0, none⟩ m vc new 1 Tryz.underlying22 hsz (by rw [hnl]; congr 1; simp only [Nat.min_def]; split <;> omega)
          (fun j v hj => by
            rw [Addr.add_lit, Nat.zero_add, hWc, hW1, World.cell?_setCells_out g _ _ _ _ (fun h _ => absurd h hvg)]
            exact hvs j v hj)
          (fun j hj => by rw [hWc, hW1, hR1.cell, List.getElem?_eq_getElem (by rw [hl1, hcl]; rw [hnl] at hj; omega)]; rfl) (fun j hj => by rw [hWf, hW1]; exact hR1.free _) h1v
      have HP := Lib.hid (show InsPost B 23 1 (.slice (some ⟨g, 0, none⟩) n cap) (n + m) (xs.take (i) ++ new ++ xs.drop (i)) w (.returned (.slice (some ⟨g, 0, none⟩) (n + m) cap)) (W1.setCells g (i) new) from
        ⟨_, rfl, row_own hBg (by omega) hcm (by rw [hW1]; exact hR2) (by rw [hl2, hl1, hcl]) (ins_take (I := i) (J := i + m) (k := m * 1) (N := n * 1) (M := (n + m) * 1) hcx (by omega) hnl (by omega) (by rw [hcl]; omega) (by omega)),
          by rw [hW1]; exact (Kept.sets new (i) _ (Kept.sets _ _ _ (Kept.refl (Only g) w).drewR)).mono (fun x _ hx => by rw [show x = g from hx]; rfl), .inl rfl⟩)
      rw [← hW1] at hcp1
      clear hr hv hR1 hR2 hl1 hl2 h hcs hvs hcx hcl
      go_enter Tryz.func30, Tryz.ntmps30
      go_wp2_with (simp only [hov])
      go_region_law_o (refine step_copy_runI rfl _ _ 22 22 rfl _ _ (by simp [Act.eval, Act.put]) (by simp [Act.eval, Act.put]) (hcp1 _ _ _) ?_)
      go_wp2_with (at_builtin; refine wpList_copy_runI _ rfl _ _ 22 22 rfl _ _ rfl rfl (hcp2 _ (fun _ => rfl) (fun _ => rfl) _ _) ?_)
      go_ret
      rw [hW1] at HP
      obtain ⟨V', h1, h2⟩ := HP.out
      cases h1
      refine ⟨_, rfl, ?_⟩
      exact h2
    · have hz3 : (cap : Int) < (n : Int) + (m : Int) := by omega
      have hkk : (n : Int) + (m : Int) - (i : Int) = ((n + m - i : Nat) : Int) := by omega
      have hik : i + (n + m - i) = n + m := by omega
      obtain ⟨i0, hi0, hz0, hzs, hzb⟩ := info_parts info_u64
      have hold : (Builtin.firstCells i0.size i (.slice (some ⟨g, 0, none⟩) i cap)).run Tryz.prog w.drew = .ok (xs.take (i)).toArray w.drew := by
        rw [hzs]
        exact run_firstCells_some w.drew 1 i ⟨g, 0, none⟩ i cap (xs.take (i)) (by rw [List.length_take]; omega) (fun j v hj => by
          rw [Addr.add_lit, Nat.zero_add]
          rw [List.getElem?_take] at hj
          split at hj
          · exact hcs j v hj
          · cases hj)
      obtain ⟨G, hG⟩ : ∃ G, G = grownCap w (n + m) cap 23 := ⟨_, rfl⟩
      have hGn : n + m ≤ G := by rw [hG]; exact grownCap_ge w _ _ _
      have hG63 : G ≤ 9223372036854775807 := by
        have := grownCap_le_maxLen w (n + m) cap 23 (by unfold maxLen; omega)
        rw [← hG] at this
        unfold maxLen at this
        omega
      have hrz : ∀ ty, (Builtin.append_ #[22, 3] ty #[.slice (some ⟨g, 0, none⟩) i cap, .int .i64 ((n : Int) + (m : Int) - (i : Int))]).run Tryz.prog w =
          .ok (.slice (some ⟨w.heap.size, 0, none⟩) (n + m) G) (w.drew.alloc (.cells ((xs.take (i)).toArray ++ Builtin.zeroCells (Value.cells (.int .u64 0)) (n + m - i) ++ Builtin.zeroCells (Value.cells (.int .u64 0)) (G - (n + m))) 23)) := fun ty => by
        have h := Lib.run_append_grow_zeros w 22 3 ty 23 i0 _ .i64 .i64 Tryz.underlying22 Tryz.underlying3 hi0 hz0 (some ⟨g, 0, none⟩) i cap (xs.take (i)) hold (n + m - i) (by omega) (by rw [hzs]; omega) (by omega) (by omega) (by rw [hzb]; omega) (by rw [hzb, hik]; exact growslice_fits (by omega) hbig)
        rw [hik] at h
        rw [hkk, hG]
        exact h
      obtain ⟨ROW, hROW⟩ : ∃ ROW : Array Value, ROW = (xs.take (i)).toArray ++ Builtin.zeroCells (Value.cells (.int .u64 0)) (n + m - i) ++ Builtin.zeroCells (Value.cells (.int .u64 0)) (G - (n + m)) := ⟨_, rfl⟩
      rw [← hROW] at hrz
      have hRl : ROW.toList.length = G * 1 := by
        rw [hROW]
        simp only [Array.toList_append, List.length_append, zeroCells_len, List.length_take]
        simp [Value.cells]
        omega
      have hRt : ROW.toList.take (i) = xs.take (i) := by
        rw [hROW]
        simp only [Array.toList_append, List.append_assoc]
        exact List.take_left' (by rw [List.length_take]; omega)
      obtain ⟨W1, hW1⟩ : ∃ W1, W1 = w.drew.alloc (.cells ROW 23) := ⟨_, rfl⟩
      rw [← hW1] at hrz
      have hRN : Rw W1 w.heap.size ROW.toList 23 := by rw [hW1]; exact Rw.new w.drew ROW 23
      have hOb : ∀ j v, w.cell? ⟨g, j, none⟩ = some v → W1.cell? ⟨g, j, none⟩ = some v := fun j v h => by rw [hW1, World.cell?_alloc_past (w := w.drew) _ g j hgl]; exact h
      have hOv : ∀ j v, w.cell? ⟨vb, j, none⟩ = some v → W1.cell? ⟨vb, j, none⟩ = some v := fun j v h => by rw [hW1, World.cell?_alloc_past (w := w.drew) _ vb j hvl]; exact h
      have hR1 := hRN.sets new (i) _ _ (by rw [hRl, hnl]; omega)
      have hl1 := sets_len ROW.toList new (i) (by rw [hRl, hnl]; omega)
      have hR2 := hR1.drew.sets (xs.drop (i)) (i + m) _ _ (by rw [hl1, hRl, hdl]; omega)
      have hl2 := sets_len _ (xs.drop (i)) (i + m) (show i + m + (xs.drop (i)).length ≤ (ROW.toList.take (i) ++ new ++ ROW.toList.drop (i + new.length)).length by rw [hl1, hRl, hdl]; omega)
      have hcpA : ∀ (W : World), (∀ x, W.cell? x = W1.cell? x) → (∀ x, W.frozen? x = W1.frozen? x) → ∀ ty dc, (Builtin.copy_ #[22, 22] ty #[.slice (some ⟨w.heap.size, i, none⟩) (n + m - i) dc, .slice (some ⟨vb, 0, none⟩) m vc]).run Tryz.prog W = .ok (goInt (Nat.min m (n + m - i))) (W.setCells w.heap.size (i) new) := fun W hWc hWf ty dc =>
        run_copy_k W _ _ ty 23 w.heap.size (i) (n + m - i) dc ⟨vb, 0, none⟩ m vc new 1 Tryz.underlying22 hsz (by rw [hnl]; congr 1; simp only [Nat.min_def]; split <;> omega)
          (fun j v hj => by rw [Addr.add_lit, Nat.zero_add, hWc]; exact hOv _ v (hvs j v hj))
          (fun j hj => by rw [hWc, hRN.cell, List.getElem?_eq_getElem (by rw [hRl]; rw [hnl] at hj; omega)]; rfl) (fun j hj => by rw [hWf]; exact hRN.free _) h1v
      have hgN : g ≠ w.heap.size := by omega
      have hcpB : ∀ (W : World), (∀ x, W.cell? x = (W1.setCells w.heap.size (i) new).cell? x) → (∀ x, W.frozen? x = (W1.setCells w.heap.size (i) new).frozen? x) → ∀ ty dc sc, (Builtin.copy_ #[22, 22] ty #[.slice (some ⟨w.heap.size, i + m, none⟩) (n + m - (i + m)) dc, .slice (some ⟨g, i, none⟩) (n - i) sc]).run Tryz.prog W = .ok (goInt (Nat.min (n - i) (n + m - (i + m)))) (W.setCells w.heap.size (i + m) (xs.drop (i))) := fun W hWc hWf ty dc sc =>
        run_copy_k W _ _ ty 23 w.heap.size (i + m) (n + m - (i + m)) dc ⟨g, i, none⟩ (n - i) sc (xs.drop (i)) 1 Tryz.underlying22 hsz (by rw [hdl]; congr 1; simp only [Nat.min_def]; split <;> omega)
          (fun j v hj => by
            rw [Addr.add_lit, hWc, World.cell?_setCells_out _ _ _ _ _ (fun h _ => absurd h hgN)]
            refine hOb _ v (hcs _ v ?_)
            rw [List.getElem?_drop] at hj; simpa using hj)
          (fun j hj => by rw [hWc, hR1.cell, List.getElem?_eq_getElem (by rw [hl1, hRl]; rw [hdl] at hj; omega)]; rfl)
          (fun j hj => by rw [hWf]; exact hR1.free _) (fun v hv => h1c v (List.mem_of_mem_drop hv))
      have HP := Lib.hid (show InsPost B 23 1 (.slice (some ⟨g, 0, none⟩) n cap) (n + m) (xs.take (i) ++ new ++ xs.drop (i)) w (.returned (.slice (some ⟨w.heap.size, 0, none⟩) (n + m) G)) ((W1.setCells w.heap.size (i) new).drew.setCells w.heap.size (i + m) (xs.drop (i))) from
        ⟨_, rfl, row_own hB hGn hG63 hR2 (by rw [hl2, hl1, hRl]) (ins_grow (I := i) (J := i + m) (k := m * 1) (N := n * 1) (M := (n + m) * 1) hRt hxl (by omega) hnl (by omega) (by omega)),
          Kept.new_sets (Nat.le_refl _) _ _ _ (Kept.new_sets (Nat.le_refl _) _ _ _ (by rw [hW1]; exact (Kept.refl (Lk _) w).drewR.alloc _)).drewR, .inr rfl⟩)
      have hGi : ¬ (G = i) := by omega
      have hGim : ¬ (G = i + m) := by omega
      have hci : ¬ (cap = i) := by omega
      have hb3 : (i : Int) ≤ (n : Int) := by omega
      subst hW1
      have hE1 : ∀ x, ((w.alloc (.cells ROW 23)).drew).cell? x = (w.drew.alloc (.cells ROW 23)).cell? x := fun x => rfl
      have hE2 : ∀ x, ((w.alloc (.cells ROW 23)).drew).frozen? x = (w.drew.alloc (.cells ROW 23)).frozen? x := fun x => rfl
      have hF1 : ∀ x, (((w.alloc (.cells ROW 23)).drew.setCells w.heap.size (i) new).drew).cell? x = ((w.drew.alloc (.cells ROW 23)).setCells w.heap.size (i) new).cell? x := fun x => rfl
      have hF2 : ∀ x, (((w.alloc (.cells ROW 23)).drew.setCells w.heap.size (i) new).drew).frozen? x = ((w.drew.alloc (.cells ROW 23)).setCells w.heap.size (i) new).frozen? x := fun x => rfl
      clear hkk hik hold hROW hG hRl hr hv hR1 hR2 hl1 hl2 h hcs hvs hcx hcl hRN hOb hOv hRt
      go_enter Tryz.func30, Tryz.ntmps30
      go_wp2_with (first
        | (at_builtin; refine Lib.wpList_append_run _ rfl _ _ _ _ rfl _ _ rfl rfl _ _ (hrz _) ?_)
        | (at_builtin; refine wpList_copy_runI _ rfl _ _ 22 22 rfl _ _ rfl rfl (hcpA _ hE1 hE2 _ _) ?_)
        | (at_builtin; refine wpList_copy_runI _ rfl _ _ 22 22 rfl _ _ rfl rfl (hcpB _ (fun _ => rfl) (fun _ => rfl) _ _ _) ?_))
      go_region_law_o (refine step_copy_runI rfl _ _ 22 22 rfl (.slice (some ⟨w.heap.size, i + m, none⟩) (n + m - (i + m)) (G - (i + m))) (.slice (some ⟨g, i, none⟩) (n - i) (cap - i)) (by simp [Act.eval, Act.put]) (by simp [Act.eval, Act.put]) (hcpB _ hF1 hF2 3 (G - (i + m)) (cap - i)) ?_)
      go_wp2
      go_ret
      obtain ⟨V', h1, h2⟩ := HP.out
      cases h1
      refine ⟨_, rfl, ?_⟩
      exact h2
end Go.Proofs.YtgfkgbampoocdaaGreatDoor
