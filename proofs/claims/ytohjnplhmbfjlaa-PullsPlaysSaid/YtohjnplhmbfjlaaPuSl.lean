/- The library's slice functions at flows. -/
import Derived.Test.YtohjnplhmbfjlaaPuP
import Derived.Test.YtohjnplhmbfjlaaObj
import Derived.Test.YtohjnplhmbfjlaaRun
import Derived.Test.YtohjnplhmbfjlaaProg
namespace Go.Proofs.Ytohjnplhmbfjlaa
open Go.RowKit
theorem size_fl (w : World) : (Go.sizeOf 60).run Try.prog w = .ok 3 w := by kernel_rfl
theorem info_fl : (Try.prog.info? 60).map (fun i => (i.zero, i.size, i.bytes)) = some (some (.agg #[.int .u64 0, .int .i64 0, .int .i64 0]), 3, 24) := by kernel_rfl
theorem zero_fl (w : World) : (zeroValue 60).run Try.prog w = .ok (.agg #[.int .u64 0, .int .i64 0, .int .i64 0]) w := by kernel_rfl
def DelPost (g n cap i j : Nat) (cs : List Value) (T : TypeId) (k : Nat) (w : World) (e : Ending) (w' : World) : Prop :=
  e = .returned (.slice (some ⟨g, 0, none⟩) (n - (j - i)) cap) ∧ Kept (Only g) w w' ∧ ∃ cs', Rw w' g cs' T ∧ cs'.length = cs.length ∧ cs'.take ((n - (j - i)) * k) = cs.take (i * k) ++ (cs.take (n * k)).drop (j * k)
set_option maxHeartbeats 1000000 in
theorem delete_fl (g n cap i j : Nat) (cs : List Value) (w : World) (hr : Rw w g cs 60) (hl : cs.length = cap * 3) (hn : n ≤ cap) (hm : cap ≤ 9223372036854775807) (hij : i ≤ j) (hj : j ≤ n) (h1c : ∀ u ∈ cs.take (n * 3), u.oneCell' = true) :
    Calls Try.prog 25 #[.slice (some ⟨g, 0, none⟩) n cap, .int .i64 i, .int .i64 j] w (DelPost g n cap i j cs 60 3 w) := by
  by_cases heq : i = j
  · subst heq
    have hp : DelPost g n cap i i cs 60 3 w (.returned (.slice (some ⟨g, 0, none⟩) n cap)) w :=
      ⟨by rw [Nat.sub_self, Nat.sub_zero], Kept.refl _ _, cs, hr, rfl, by
        rw [Nat.sub_self, Nat.sub_zero]
        have h2 : cs.take (i * 3) = (cs.take (n * 3)).take (i * 3) := by rw [List.take_take, Nat.min_eq_left (by omega)]
        rw [h2, List.take_append_drop]⟩
    have HP := Lib.hid hp
    clear hp hr
    go_enter Try.func25, Try.ntmps25
    go_wp2
    all_goals (go_ret; first | exact HP.out | (rw [show n = i by omega] at HP; exact HP.out))
  · have hlt : i < j := by omega
    obtain ⟨news, hnews⟩ : ∃ news, news = (cs.take (n * 3)).drop (j * 3) := ⟨_, rfl⟩
    have hnl : news.length = (n - j) * 3 := by rw [hnews, List.length_drop, List.length_take, hl]; omega
    have hn1 : ∀ u ∈ news, u.oneCell' = true := fun u hu => h1c u (by rw [hnews] at hu; exact List.mem_of_mem_drop hu)
    have hget : ∀ t u, news[t]? = some u → cs[j * 3 + t]? = some u := by
      intro t u hu
      rw [hnews, List.getElem?_drop, List.getElem?_take] at hu
      split at hu
      · exact hu
      · cases hu
    obtain ⟨ad, had, hsrc⟩ : ∃ ad : Addr, Hid ((if cap = j then some (⟨g, 0, none⟩ : Addr) else some ⟨g, j * 3, none⟩) = some ad) ∧ Hid (∀ t u, news[t]? = some u → w.drew.cell? (ad.add t) = some u) := by
      by_cases h : cap = j
      · refine ⟨⟨g, 0, none⟩, if_pos h, fun t u hu => ?_⟩
        have h0 : news.length = 0 := by rw [hnl]; omega
        rw [List.length_eq_zero_iff.1 h0] at hu
        simp at hu
      · refine ⟨⟨g, j * 3, none⟩, if_neg h, fun t u hu => ?_⟩
        rw [addr_add, hr.drew.cell, hget t u hu]
    have hW1 := hr.drew.sets news (i * 3) _ _ (by rw [hnl, hl]; omega)
    have hcl2 : (cs.take (i * 3) ++ news ++ cs.drop (i * 3 + news.length)).length = cs.length := by
      rw [List.length_append, List.length_append, List.length_take, List.length_drop]; rw [hnl, hl]; omega
    have hsp : Hid (∀ t, t < news.length → (w.drew.cell? ⟨g, 0 + i * 3 + t, none⟩).isSome = true ∧ w.drew.frozen? ⟨g, 0 + i * 3 + t, none⟩ = false) := by
      intro t ht
      rw [hnl] at ht
      rw [hr.drew.cell, List.getElem?_eq_getElem (by rw [hl]; omega)]
      exact ⟨rfl, hr.drew.free _⟩
    have hrun : ∀ ty c, (Builtin.clear_ #[49] ty #[.slice (some ⟨g, (i + (n - j)) * 3, none⟩) (n - (i + (n - j))) c]).run Try.prog (w.drew.setCells g (0 + i * 3) news) = .ok (.tuple #[]) ((w.drew.setCells g (0 + i * 3) news).setCells g ((i + (n - j)) * 3) (Builtin.zeroCells (Value.cells (.agg #[.int .u64 0, .int .i64 0, .int .i64 0])) (n - (i + (n - j)))).toList) := by
      intro ty c
      rw [Nat.zero_add]
      exact run_clear Try.underlying49 zero_fl (by simp [Value.cells, Value.oneCell']) (by omega) hW1 (by rw [hcl2, hl]; simp [Value.cells]; omega)
    have hW2 := hW1.sets ((Builtin.zeroCells (Value.cells (.agg #[.int .u64 0, .int .i64 0, .int .i64 0])) (n - (i + (n - j)))).toList) ((i + (n - j)) * 3) _ _ (by rw [hcl2, hl, zeroCells_len]; simp [Value.cells]; omega)
    have HL := Lib.hid (show _ = cs.length from by
      have e := (del_len (cs.take (i * 3) ++ news ++ cs.drop (i * 3 + news.length)) (Builtin.zeroCells (Value.cells (.agg #[.int .u64 0, .int .i64 0, .int .i64 0])) (n - (i + (n - j)))).toList ((i + (n - j)) * 3) (by rw [hcl2, hl, zeroCells_len]; simp only [Value.cells]; show _ + _ * 3 ≤ _; omega))
      exact e.trans hcl2)
    have HT : Hid ((((cs.take (i * 3) ++ news ++ cs.drop (i * 3 + news.length)).take ((i + (n - j)) * 3) ++ (Builtin.zeroCells (Value.cells (.agg #[.int .u64 0, .int .i64 0, .int .i64 0])) (n - (i + (n - j)))).toList ++ (cs.take (i * 3) ++ news ++ cs.drop (i * 3 + news.length)).drop ((i + (n - j)) * 3 + (Builtin.zeroCells (Value.cells (.agg #[.int .u64 0, .int .i64 0, .int .i64 0])) (n - (i + (n - j)))).toList.length)).take ((n - (j - i)) * 3)) = cs.take (i * 3) ++ (cs.take (n * 3)).drop (j * 3)) := Lib.hid (show _ = cs.take (i * 3) ++ (cs.take (n * 3)).drop (j * 3) from by
      rw [← hnews]
      exact del_take (cs.take (i * 3)) news (cs.drop (i * 3 + news.length)) (Builtin.zeroCells (Value.cells (.agg #[.int .u64 0, .int .i64 0, .int .i64 0])) (n - (i + (n - j)))).toList ((i + (n - j)) * 3) _ ((n - (j - i)) * 3) (by rw [List.length_take, hnl, hl]; omega) (by omega))
    have HR := Lib.hid hrun
    have HN := Lib.hid hnl
    have HN1 := Lib.hid hn1
    have HC := Lib.hid h1c
    clear hrun hnl h1c hget hW1 hcl2 hl hnews hr hn1
    have hic : i ≤ cap := by omega
    have hjc : j ≤ cap := by omega
    go_enter Try.func25, Try.ntmps25
    go_wp2_with fail
    refine wp_stands (M := (Only g)) (by kernel_rfl) ?_
    refine st_quiet [true, true, true, true, true, true, false, false] (by kernel_rfl) ?_
    simp only [pickAt]
    repeat (go_big_quiet_step (fail))
    refine wpQuiet_nil ?_
    refine st_act 6 rfl (by kernel_rfl) ?_
    refine run_want rfl ?_
    intro A hA
    refine wp_app_room (.tmp 22) (.tmp 25) 49 (by rfl) info_fl Try.underlying49 (b := g) (off := 0) (n := i) (cap := cap) (by rfl) (ad := ad) (m := n - j) (c := cap - j) (congrArg (fun x => Value.slice x (n - j) (cap - j)) had.out) HN.out hsrc.out HN1.out (by omega) hsp.out ?_
    refine hA _ _ ((Kept.refl _ _).sets _ _ _) ?_
    try simp only [Act.put, List.setIfInBounds_toArray, List.set_cons_zero, List.set_cons_succ]
    clear A hA
    have HK := Lib.hid ((Kept.refl (Only g) w).drewR.sets news (0 + i * 3) _)
    have HW := Lib.hid hW2
    clear hW2
    refine st_quiet [false, false, false, false, false, false, false, true] (by kernel_rfl) ?_
    simp only [pickAt]
    repeat (go_big_quiet_step (fail))
    refine wpQuiet_nil ?_
    refine st_done (by kernel_rfl) ?_
    have hcl := HR.out
    rw [Nat.zero_add] at *
    generalize w.drew.setCells g (i * 3) news = W1 at *
    have HP := Lib.hid (show DelPost g n cap i j cs 60 3 w (.returned (.slice (some ⟨g, 0, none⟩) (i + (n - j)) cap)) _ from ⟨by rw [show n - (j - i) = i + (n - j) by omega], HK.out.sets _ _ _, _, HW.out, HL.out, HT.out⟩)
    go_wp2_with fail
    all_goals (go_ret; first | exact HP.out | (rw [show cap = j by omega] at HP; exact HP.out))
set_option maxHeartbeats 4000000 in
set_option maxRecDepth 100000 in
theorem insert_fl (B : Nat) (V : Value) (n i vb m vc : Nat) (xs new : List Value) (w : World) (h : w.ownsRow B 60 3 V n xs) (hi : i ≤ n) (hm : 0 < m) (hnl : new.length = m * 3) (hv : Rw w vb new 60) (hmc : m ≤ vc) (hvc : vc ≤ 9223372036854775807)
    (hne : V.ownBlock ≠ some vb) (h1c : ∀ u ∈ xs, u.oneCell' = true) (h1v : ∀ u ∈ new, u.oneCell' = true) (hbig : (n + m) * 24 ≤ 140737488355328) (hB : B ≤ w.heap.size) :
    Calls Try.prog 21 #[V, .int .i64 i, .slice (some ⟨vb, 0, none⟩) m vc] w (InsPost B 60 3 V (n + m) (xs.take ((i) * 3) ++ new ++ xs.drop ((i) * 3)) w) := by
  have hz1 : ¬ ((m : Int) = 0) := by omega
  have mixed : Try.prog.follows .mixedOrders = true := by kernel_rfl
  have hxl := h.1
  by_cases hin : i = n
  · subst hin
    obtain ⟨a, c, rfl, hnc, hcm⟩ := (Rd.of_own h).form
    have HO := Lib.hid h
    have HV := Lib.hid (Rd.ofRw hv hnl hmc hvc)
    have hout : xs.take ((i) * 3) ++ new ++ xs.drop ((i) * 3) = xs ++ new := by
      rw [List.take_of_length_le (by omega), List.drop_of_length_le (by omega), List.append_nil]
    rw [hout]
    clear h hv hout hxl
    go_enter Try.func21, Try.ntmps21
    go_wp2_with (at_builtin; refine wpList_appAt rfl (.tmp 23) (.tmp 24) 49 rfl info_fl Try.underlying49 rfl (by decide) HO.out HV.out rfl rfl h1v hbig hB ?_; intro v' w' ho' hg' hb')
    all_goals
      go_ret
      exact ⟨_, rfl, ho', Kept.of_grown hg' fun b hb => (ownBlock_cap _ _ _ _).trans hb, hb'.imp (fun h => h.trans (ownBlock_cap _ _ _ _)) id⟩
  · have hlt : i < n := by omega
    have hz2 : ¬ ((i : Int) = (n : Int)) := by omega
    obtain ⟨g, cap, rfl, _⟩ := own_some h (by omega)
    obtain ⟨hBg, hnc, hcm, _, cs, hr, hcl, hcx⟩ := own_row h
    have hvg : vb ≠ g := fun e => hne (by rw [e]; rfl)
    have hsz : (Try.prog.info? 60).map (·.size) = some 3 := by
      obtain ⟨i0, hi0, h0, h1, h2⟩ := info_parts info_fl
      rw [hi0]; simp [h1]
    have hgl := hr.lt
    have hvl := hv.lt
    have hcs : ∀ j v, xs[j]? = some v → w.cell? ⟨g, j, none⟩ = some v := by
      intro j v hj
      rw [hr.cell]
      rw [← hcx, List.getElem?_take] at hj
      split at hj
      · exact hj
      · cases hj
    have hvs : ∀ j v, new[j]? = some v → w.cell? ⟨vb, j, none⟩ = some v := fun j v hj => by rw [hv.cell]; exact hj
    have hdl : (xs.drop ((i) * 3)).length = (n - i) * 3 := by rw [List.length_drop, hxl]; omega
    have hin' : i ≤ n := by omega
    have hw1 : IntKind.i64.wrap ((i : Int) + (m : Int)) = (i : Int) + (m : Int) := by rw [IntKind.wrap_i64]; omega
    have hb1 : (0 : Int) ≤ (i : Int) + (m : Int) := by omega
    have htn : ((i : Int) + (m : Int)).toNat = i + m := by omega
    by_cases hroom : n + m ≤ cap
    · have hb2 : ¬ (cap = i + m) := by omega
      have hb3 : (i : Int) ≤ (n : Int) + (m : Int) := by omega
      have hb4 : ¬ (cap = i) := by omega
      have hov : ∀ lb cb, (callFunc 29 #[.slice (some ⟨vb, 0, none⟩) m vc, .slice (some ⟨g, (i + m) * 3, none⟩) lb cb]).run Try.prog w = .ok (.value (.bool false)) w := fun lb cb => by
        rw [run_callFunc_extern Try.func29 (by kernel_rfl) (by kernel_rfl) (by kernel_rfl) (e := Extern.SlicesOverlaps.overlaps #[49, 49] #[4]) (by kernel_rfl),
          Lib.run_overlaps_apart w 49 4 60 Try.underlying49 3 size_fl ⟨vb, 0, none⟩ ⟨g, (i + m) * 3, none⟩ m vc lb cb hvg 60 60 new.length cs.length hv.shape hr.shape (by omega) (hv.free _) (hv.free _)]
        rfl
      have hcp1 : ∀ ty dc sc, (Builtin.copy_ #[49, 49] ty #[.slice (some ⟨g, (i + m) * 3, none⟩) (n + m - (i + m)) dc, .slice (some ⟨g, (i) * 3, none⟩) (n + m - i) sc]).run Try.prog w.drew = .ok (goInt (Nat.min (n + m - i) (n + m - (i + m)))) (w.drew.setCells g ((i + m) * 3) (xs.drop ((i) * 3))) := fun ty dc sc =>
        run_copy_k w.drew _ _ ty 60 g ((i + m) * 3) (n + m - (i + m)) dc ⟨g, (i) * 3, none⟩ (n + m - i) sc (xs.drop ((i) * 3)) 3 Try.underlying49 hsz (by rw [hdl]; congr 1; simp only [Nat.min_def]; split <;> omega)
          (fun j v hj => by rw [Addr.add_lit]; refine hcs _ v ?_; rw [List.getElem?_drop] at hj; simpa using hj)
          (fun j hj => by rw [hr.drew.cell, List.getElem?_eq_getElem (by rw [hdl] at hj; rw [hcl]; omega)]; rfl) (fun j hj => hr.drew.free _) (fun v hv => h1c v (List.mem_of_mem_drop hv))
      obtain ⟨W1, hW1⟩ : ∃ W1, W1 = w.drew.setCells g ((i + m) * 3) (xs.drop ((i) * 3)) := ⟨_, rfl⟩
      have hR1 := hr.drew.sets (xs.drop ((i) * 3)) ((i + m) * 3) _ _ (by rw [hdl, hcl]; omega)
      have hl1 := sets_len cs (xs.drop ((i) * 3)) ((i + m) * 3) (by rw [hdl, hcl]; omega)
      have hR2 := hR1.sets new ((i) * 3) _ _ (by rw [hl1, hnl, hcl]; omega)
      have hl2 := sets_len _ new ((i) * 3) (show (i) * 3 + new.length ≤ (cs.take ((i + m) * 3) ++ xs.drop ((i) * 3) ++ cs.drop ((i + m) * 3 + (xs.drop ((i) * 3)).length)).length by rw [hl1, hnl, hcl]; omega)
      have hcp2 : ∀ (W : World), (∀ x, W.cell? x = W1.cell? x) → (∀ x, W.frozen? x = W1.frozen? x) → ∀ ty dc, (Builtin.copy_ #[49, 49] ty #[.slice (some ⟨g, (i) * 3, none⟩) (n + m - i) dc, .slice (some ⟨vb, 0, none⟩) m vc]).run Try.prog W = .ok (goInt (Nat.min m (n + m - i))) (W.setCells g ((i) * 3) new) := fun W hWc hWf ty dc =>
        run_copy_k W _ _ ty 60 g ((i) * 3) (n + m - i) dc ⟨vb, 0, none⟩ m vc new 3 Try.underlying49 hsz (by rw [hnl]; congr 1; simp only [Nat.min_def]; split <;> omega)
          (fun j v hj => by
            rw [Addr.add_lit, Nat.zero_add, hWc, hW1, World.cell?_setCells_out g _ _ _ _ (fun h _ => absurd h hvg)]
            exact hvs j v hj)
          (fun j hj => by rw [hWc, hW1, hR1.cell, List.getElem?_eq_getElem (by rw [hl1, hcl]; rw [hnl] at hj; omega)]; rfl) (fun j hj => by rw [hWf, hW1]; exact hR1.free _) h1v
      have HP := Lib.hid (show InsPost B 60 3 (.slice (some ⟨g, 0, none⟩) n cap) (n + m) (xs.take ((i) * 3) ++ new ++ xs.drop ((i) * 3)) w (.returned (.slice (some ⟨g, 0, none⟩) (n + m) cap)) (W1.setCells g ((i) * 3) new) from
        ⟨_, rfl, row_own hBg (by omega) hcm (by rw [hW1]; exact hR2) (by rw [hl2, hl1, hcl]) (ins_take (I := (i) * 3) (J := (i + m) * 3) (k := m * 3) (N := n * 3) (M := (n + m) * 3) hcx (by omega) hnl (by omega) (by rw [hcl]; omega) (by omega)),
          by rw [hW1]; exact (Kept.sets new ((i) * 3) _ (Kept.sets _ _ _ (Kept.refl (Only g) w).drewR)).mono (fun x _ hx => by rw [show x = g from hx]; rfl), .inl rfl⟩)
      rw [← hW1] at hcp1
      clear hr hv hR1 hR2 hl1 hl2 h hcs hvs hcx hcl
      go_enter Try.func21, Try.ntmps21
      go_wp2_with (simp only [hov])
      go_region_law_o (refine step_copy_runI rfl _ _ 49 49 rfl _ _ (by simp [Act.eval, Act.put]) (by simp [Act.eval, Act.put]) (hcp1 _ _ _) ?_)
      go_wp2_with (at_builtin; refine wpList_copy_runI _ rfl _ _ 49 49 rfl _ _ rfl rfl (hcp2 _ (fun _ => rfl) (fun _ => rfl) _ _) ?_)
      go_ret
      rw [hW1] at HP
      obtain ⟨V', h1, h2⟩ := HP.out
      cases h1
      refine ⟨_, rfl, ?_⟩
      exact h2
    · have hz3 : (cap : Int) < (n : Int) + (m : Int) := by omega
      have hkk : (n : Int) + (m : Int) - (i : Int) = ((n + m - i : Nat) : Int) := by omega
      have hik : i + (n + m - i) = n + m := by omega
      obtain ⟨i0, hi0, hz0, hzs, hzb⟩ := info_parts info_fl
      have hold : (Builtin.firstCells i0.size i (.slice (some ⟨g, 0, none⟩) i cap)).run Try.prog w.drew = .ok (xs.take ((i) * 3)).toArray w.drew := by
        rw [hzs]
        exact run_firstCells_some w.drew 3 i ⟨g, 0, none⟩ i cap (xs.take ((i) * 3)) (by rw [List.length_take]; omega) (fun j v hj => by
          rw [Addr.add_lit, Nat.zero_add]
          rw [List.getElem?_take] at hj
          split at hj
          · exact hcs j v hj
          · cases hj)
      obtain ⟨G, hG⟩ : ∃ G, G = grownCap w (n + m) cap 60 := ⟨_, rfl⟩
      have hGn : n + m ≤ G := by rw [hG]; exact grownCap_ge w _ _ _
      have hG63 : G ≤ 9223372036854775807 := by
        have := grownCap_le_maxLen w (n + m) cap 60 (by unfold maxLen; omega)
        rw [← hG] at this
        unfold maxLen at this
        omega
      have hrz : ∀ ty, (Builtin.append_ #[49, 3] ty #[.slice (some ⟨g, 0, none⟩) i cap, .int .i64 ((n : Int) + (m : Int) - (i : Int))]).run Try.prog w =
          .ok (.slice (some ⟨w.heap.size, 0, none⟩) (n + m) G) (w.drew.alloc (.cells ((xs.take ((i) * 3)).toArray ++ Builtin.zeroCells (Value.cells (.agg #[.int .u64 0, .int .i64 0, .int .i64 0])) (n + m - i) ++ Builtin.zeroCells (Value.cells (.agg #[.int .u64 0, .int .i64 0, .int .i64 0])) (G - (n + m))) 60)) := fun ty => by
        have h := Lib.run_append_grow_zeros w 49 3 ty 60 i0 _ .i64 .i64 Try.underlying49 Try.underlying3 hi0 hz0 (some ⟨g, 0, none⟩) i cap (xs.take ((i) * 3)) hold (n + m - i) (by omega) (by rw [hzs]; omega) (by omega) (by omega) (by rw [hzb]; omega) (by rw [hzb, hik]; exact growslice_fits (by omega) hbig)
        rw [hik] at h
        rw [hkk, hG]
        exact h
      obtain ⟨ROW, hROW⟩ : ∃ ROW : Array Value, ROW = (xs.take ((i) * 3)).toArray ++ Builtin.zeroCells (Value.cells (.agg #[.int .u64 0, .int .i64 0, .int .i64 0])) (n + m - i) ++ Builtin.zeroCells (Value.cells (.agg #[.int .u64 0, .int .i64 0, .int .i64 0])) (G - (n + m)) := ⟨_, rfl⟩
      rw [← hROW] at hrz
      have hRl : ROW.toList.length = G * 3 := by
        rw [hROW]
        simp only [Array.toList_append, List.length_append, zeroCells_len, List.length_take]
        simp [Value.cells]
        omega
      have hRt : ROW.toList.take ((i) * 3) = xs.take ((i) * 3) := by
        rw [hROW]
        simp only [Array.toList_append, List.append_assoc]
        exact List.take_left' (by rw [List.length_take]; omega)
      obtain ⟨W1, hW1⟩ : ∃ W1, W1 = w.drew.alloc (.cells ROW 60) := ⟨_, rfl⟩
      rw [← hW1] at hrz
      have hRN : Rw W1 w.heap.size ROW.toList 60 := by rw [hW1]; exact Rw.new w.drew ROW 60
      have hOb : ∀ j v, w.cell? ⟨g, j, none⟩ = some v → W1.cell? ⟨g, j, none⟩ = some v := fun j v h => by rw [hW1, World.cell?_alloc_past (w := w.drew) _ g j hgl]; exact h
      have hOv : ∀ j v, w.cell? ⟨vb, j, none⟩ = some v → W1.cell? ⟨vb, j, none⟩ = some v := fun j v h => by rw [hW1, World.cell?_alloc_past (w := w.drew) _ vb j hvl]; exact h
      have hR1 := hRN.sets new ((i) * 3) _ _ (by rw [hRl, hnl]; omega)
      have hl1 := sets_len ROW.toList new ((i) * 3) (by rw [hRl, hnl]; omega)
      have hR2 := hR1.drew.sets (xs.drop ((i) * 3)) ((i + m) * 3) _ _ (by rw [hl1, hRl, hdl]; omega)
      have hl2 := sets_len _ (xs.drop ((i) * 3)) ((i + m) * 3) (show (i + m) * 3 + (xs.drop ((i) * 3)).length ≤ (ROW.toList.take ((i) * 3) ++ new ++ ROW.toList.drop ((i) * 3 + new.length)).length by rw [hl1, hRl, hdl]; omega)
      have hcpA : ∀ (W : World), (∀ x, W.cell? x = W1.cell? x) → (∀ x, W.frozen? x = W1.frozen? x) → ∀ ty dc, (Builtin.copy_ #[49, 49] ty #[.slice (some ⟨w.heap.size, (i) * 3, none⟩) (n + m - i) dc, .slice (some ⟨vb, 0, none⟩) m vc]).run Try.prog W = .ok (goInt (Nat.min m (n + m - i))) (W.setCells w.heap.size ((i) * 3) new) := fun W hWc hWf ty dc =>
        run_copy_k W _ _ ty 60 w.heap.size ((i) * 3) (n + m - i) dc ⟨vb, 0, none⟩ m vc new 3 Try.underlying49 hsz (by rw [hnl]; congr 1; simp only [Nat.min_def]; split <;> omega)
          (fun j v hj => by rw [Addr.add_lit, Nat.zero_add, hWc]; exact hOv _ v (hvs j v hj))
          (fun j hj => by rw [hWc, hRN.cell, List.getElem?_eq_getElem (by rw [hRl]; rw [hnl] at hj; omega)]; rfl) (fun j hj => by rw [hWf]; exact hRN.free _) h1v
      have hgN : g ≠ w.heap.size := by omega
      have hcpB : ∀ (W : World), (∀ x, W.cell? x = (W1.setCells w.heap.size ((i) * 3) new).cell? x) → (∀ x, W.frozen? x = (W1.setCells w.heap.size ((i) * 3) new).frozen? x) → ∀ ty dc sc, (Builtin.copy_ #[49, 49] ty #[.slice (some ⟨w.heap.size, (i + m) * 3, none⟩) (n + m - (i + m)) dc, .slice (some ⟨g, (i) * 3, none⟩) (n - i) sc]).run Try.prog W = .ok (goInt (Nat.min (n - i) (n + m - (i + m)))) (W.setCells w.heap.size ((i + m) * 3) (xs.drop ((i) * 3))) := fun W hWc hWf ty dc sc =>
        run_copy_k W _ _ ty 60 w.heap.size ((i + m) * 3) (n + m - (i + m)) dc ⟨g, (i) * 3, none⟩ (n - i) sc (xs.drop ((i) * 3)) 3 Try.underlying49 hsz (by rw [hdl]; congr 1; simp only [Nat.min_def]; split <;> omega)
          (fun j v hj => by
            rw [Addr.add_lit, hWc, World.cell?_setCells_out _ _ _ _ _ (fun h _ => absurd h hgN)]
            refine hOb _ v (hcs _ v ?_)
            rw [List.getElem?_drop] at hj; simpa using hj)
          (fun j hj => by rw [hWc, hR1.cell, List.getElem?_eq_getElem (by rw [hl1, hRl]; rw [hdl] at hj; omega)]; rfl)
          (fun j hj => by rw [hWf]; exact hR1.free _) (fun v hv => h1c v (List.mem_of_mem_drop hv))
      have HP := Lib.hid (show InsPost B 60 3 (.slice (some ⟨g, 0, none⟩) n cap) (n + m) (xs.take ((i) * 3) ++ new ++ xs.drop ((i) * 3)) w (.returned (.slice (some ⟨w.heap.size, 0, none⟩) (n + m) G)) ((W1.setCells w.heap.size ((i) * 3) new).drew.setCells w.heap.size ((i + m) * 3) (xs.drop ((i) * 3))) from
        ⟨_, rfl, row_own hB hGn hG63 hR2 (by rw [hl2, hl1, hRl]) (ins_grow (I := (i) * 3) (J := (i + m) * 3) (k := m * 3) (N := n * 3) (M := (n + m) * 3) hRt hxl (by omega) hnl (by omega) (by omega)),
          Kept.new_sets (Nat.le_refl _) _ _ _ (Kept.new_sets (Nat.le_refl _) _ _ _ (by rw [hW1]; exact (Kept.refl (Lk _) w).drewR.alloc _)).drewR, .inr rfl⟩)
      have hGi : ¬ (G = i) := by omega
      have hGim : ¬ (G = i + m) := by omega
      have hci : ¬ (cap = i) := by omega
      have hb3 : (i : Int) ≤ (n : Int) := by omega
      subst hW1
      have hE1 : ∀ x, ((w.alloc (.cells ROW 60)).drew).cell? x = (w.drew.alloc (.cells ROW 60)).cell? x := fun x => rfl
      have hE2 : ∀ x, ((w.alloc (.cells ROW 60)).drew).frozen? x = (w.drew.alloc (.cells ROW 60)).frozen? x := fun x => rfl
      have hF1 : ∀ x, (((w.alloc (.cells ROW 60)).drew.setCells w.heap.size ((i) * 3) new).drew).cell? x = ((w.drew.alloc (.cells ROW 60)).setCells w.heap.size ((i) * 3) new).cell? x := fun x => rfl
      have hF2 : ∀ x, (((w.alloc (.cells ROW 60)).drew.setCells w.heap.size ((i) * 3) new).drew).frozen? x = ((w.drew.alloc (.cells ROW 60)).setCells w.heap.size ((i) * 3) new).frozen? x := fun x => rfl
      clear hkk hik hold hROW hG hRl hr hv hR1 hR2 hl1 hl2 h hcs hvs hcx hcl hRN hOb hOv hRt
      go_enter Try.func21, Try.ntmps21
      go_wp2_with (first
        | (at_builtin; refine Lib.wpList_append_run _ rfl _ _ _ _ rfl _ _ rfl rfl _ _ (hrz _) ?_)
        | (at_builtin; refine wpList_copy_runI _ rfl _ _ 49 49 rfl _ _ rfl rfl (hcpA _ hE1 hE2 _ _) ?_)
        | (at_builtin; refine wpList_copy_runI _ rfl _ _ 49 49 rfl _ _ rfl rfl (hcpB _ (fun _ => rfl) (fun _ => rfl) _ _ _) ?_))
      go_region_law_o (refine step_copy_runI rfl _ _ 49 49 rfl (.slice (some ⟨w.heap.size, (i + m) * 3, none⟩) (n + m - (i + m)) (G - (i + m))) (.slice (some ⟨g, (i) * 3, none⟩) (n - i) (cap - i)) (by simp [Act.eval, Act.put]) (by simp [Act.eval, Act.put]) (hcpB _ hF1 hF2 3 (G - (i + m)) (cap - i)) ?_)
      go_wp2
      go_ret
      obtain ⟨V', h1, h2⟩ := HP.out
      cases h1
      refine ⟨_, rfl, ?_⟩
      exact h2
def Find_fl (p : Fl → Bool) (l : List Fl) (w : World) (e : Ending) (w' : World) : Prop :=
  Below w.heap.size w w' ∧ ((e = .returned (.int .i64 (-1)) ∧ ∀ y ∈ l, p y = false) ∨ ∃ i : Nat, e = .returned (.int .i64 i) ∧ (∃ h : i < l.length, p l[i] = true) ∧ ∀ y ∈ l.take i, p y = false)
set_option maxHeartbeats 2000000 in
theorem index_fl (g : Nat) (lb : Array Value) (p : Fl → Bool) (l : List Fl) (v : Value) (w : World) (eg : ∀ args w, (callFunc g args).run Try.prog w = .ok (.enter g args) w) (h : Rd w 3 v l.length (l.flatMap Fl.row)) (_ : l.length ≤ 1000000)
    (hp : ∀ (W : World) (x : Fl), Below w.heap.size w W → Calls Try.prog g (#[.agg #[.int .u64 x.id, .int .i64 x.wt, .int .i64 x.pl]] ++ lb) W fun e w' => e = .returned (.bool (p x)) ∧ Below W.heap.size W w') :
    Calls Try.prog 32 #[v, .func (.func g) #[] lb] w (Find_fl p l w) := by
  obtain ⟨a, c, rfl, h1, h2⟩ := h.form
  have HR := Lib.hid h
  have HP := Lib.hid hp
  clear h hp
  go_enter Try.func32, Try.ntmps32
  go_wp2_with fail
  go_loopw [8] (fun i wr => ∃ (j : Nat), i = .int .i64 j ∧ j ≤ l.length ∧ (∀ y ∈ l.take j, p y = false) ∧ Below w.heap.size w wr) (fun i _ => l.length - (intOf i).toNat)
  case atStart => exact ⟨0, rfl, Nat.zero_le _, fun y hy => (by simp at hy), Below.refl _ _⟩
  case round =>
    obtain ⟨j, rfl, hj, ha, hb⟩ := hrel
    have HA := Lib.hid ha
    have HB := Lib.hid hb
    clear ha hb
    by_cases hlt : j < l.length
    · obtain ⟨b, o, rfl, hbl, cw⟩ := Rd.row rowFl (by decide) (HR.out.below HB.out) j hlt
      have HT := Lib.hid (List.take_succ_eq_append_getElem hlt)
      have HY := Lib.hid (show l[j] = l[j] from rfl)
      generalize hx : l[j] = x at cw HT
      have HX := Lib.hid hx
      clear hx HY
      have c0 := cw 0 (.int .u64 x.id) rfl
      have c1 := cw 1 (.int .i64 x.wt) rfl
      have c2 := cw 2 (.int .i64 x.pl) rfl
      rw [Nat.add_zero] at c0
      have hcall := HP.out _ x HB.out
      clear cw
      cases hq : p x
      · rw [hq] at hcall
        have HQ := Lib.hid hq
        clear hq
        go_wp2_with (go_at_fn g; refine hcall.mono ?_; rintro e w' ⟨rfl, hb0⟩; have hb' := HB.out.trans (hb0.mono HB.out.size))
        go_roundw
        case rel =>
          refine ⟨j + 1, by go_num, by omega, fun y hy => ?_, hb'⟩
          rw [HT.out] at hy
          rcases List.mem_append.1 hy with hy | hy
          · exact HA.out y hy
          · rw [List.mem_singleton] at hy; subst hy; exact HQ.out
        case measure => simp [intOf]; omega
      · rw [hq] at hcall
        have HQ := Lib.hid hq
        clear hq
        go_wp2_with (go_at_fn g; refine hcall.mono ?_; rintro e w' ⟨rfl, hb0⟩; have hb' := HB.out.trans (hb0.mono HB.out.size))
        go_ret
        exact ⟨hb', .inr ⟨j, rfl, ⟨hlt, by rw [HX.out]; exact HQ.out⟩, HA.out⟩⟩
    · obtain rfl : j = l.length := by omega
      go_wp2_with fail
      go_ret
      exact ⟨HB.out, .inl ⟨rfl, fun y hy => HA.out y (by rw [List.take_length]; exact hy)⟩⟩
def Srch_fl (cf : Fl → Int) (l : List Fl) (w : World) (e : Ending) (w' : World) : Prop :=
  Below w.heap.size w w' ∧ ∃ (i : Nat) (f : Bool), e = .returned (.tuple #[.int .i64 i, .bool f]) ∧ i ≤ l.length ∧ (∀ y ∈ l.take i, cf y < 0) ∧ (∀ y ∈ l.drop i, 0 ≤ cf y) ∧ (f = true ↔ ∃ h : i < l.length, cf l[i] = 0)
set_option maxHeartbeats 4000000 in
theorem search_fl (g : Nat) (lb : Array Value) (d : Value) (cf : Fl → Int) (l : List Fl) (v : Value) (w : World) (eg : ∀ args w, (callFunc g args).run Try.prog w = .ok (.enter g args) w) (h : Rd w 3 v l.length (l.flatMap Fl.row)) (hl : l.length ≤ 1000000)
    (hm : ∀ i j, (hij : i ≤ j) → (hj : j < l.length) → cf l[j] < 0 → cf (l[i]'(Nat.lt_of_le_of_lt hij hj)) < 0)
    (hp : ∀ (W : World) (x : Fl), Below w.heap.size w W → Calls Try.prog g (#[.agg #[.int .u64 x.id, .int .i64 x.wt, .int .i64 x.pl], d] ++ lb) W fun e w' => e = .returned (.int .i64 (cf x)) ∧ Below W.heap.size W w') :
    Calls Try.prog 26 #[v, d, .func (.func g) #[] lb] w (Srch_fl cf l w) := by
  obtain ⟨a, c, rfl, h1, h2⟩ := h.form
  have HR := Lib.hid h
  have HP := Lib.hid hp
  have HM := Lib.hid hm
  clear h hp hm
  go_enter Try.func26, Try.ntmps26
  go_wp2_with fail
  go_loopw [9, 10] (fun s7 s8 wr => ∃ lo hi : Nat, s7 = .int .i64 lo ∧ s8 = .int .i64 hi ∧ lo ≤ hi ∧ hi ≤ l.length ∧ Below w.heap.size w wr ∧ (∀ y ∈ l.take lo, cf y < 0) ∧ (∀ y ∈ l.drop hi, 0 ≤ cf y)) (fun lo hi _ => (intOf hi).toNat - (intOf lo).toNat)
  case atStart => exact ⟨0, l.length, rfl, rfl, Nat.zero_le _, Nat.le_refl _, Below.refl _ _, fun y hy => (by simp at hy), fun y hy => (by simp at hy)⟩
  case round =>
    obtain ⟨lo, hi, rfl, rfl, hlh, hin, hb, h1, h2⟩ := hrel
    have I := Lib.hid (And.intro h1 h2)
    have HB := Lib.hid hb
    have sb := hb.size
    clear h1 h2 hb
    by_cases hlt : lo < hi
    · have hmid : (lo + hi) / 2 < l.length := by omega
      obtain ⟨b, o, rfl, hbl, cw⟩ := Rd.row rowFl (by decide) (HR.out.below HB.out) ((lo + hi) / 2) hmid
      generalize hx : l[(lo + hi) / 2] = x at cw
      have HX := Lib.hid hx
      clear hx
      have c0 := cw 0 (.int .u64 x.id) rfl
      have c1 := cw 1 (.int .i64 x.wt) rfl
      have c2 := cw 2 (.int .i64 x.pl) rfl
      rw [Nat.add_zero] at c0
      have hcall := HP.out _ x HB.out
      clear cw
      by_cases hq : cf x < 0
      · have HQ := Lib.hid hq
        have hd : decide (cf x < 0) = true := decide_eq_true hq
        go_wp2_with (go_at_fn g; refine hcall.mono ?_; rintro e w' ⟨rfl, hb0⟩; have hb' := HB.out.trans (hb0.mono sb))
        go_roundw
        case rel =>
          refine ⟨(lo + hi) / 2 + 1, hi, by rw [show ((lo : Int) + (hi : Int)) / 2 + 1 = (((lo + hi) / 2 + 1 : Nat) : Int) by omega], rfl, by omega, hin, hb', fun y hy => ?_, I.out.2⟩
          obtain ⟨t, ht, rfl⟩ := List.getElem_of_mem hy
          rw [List.length_take] at ht
          rw [List.getElem_take]
          exact HM.out t ((lo + hi) / 2) (by omega) hmid (by rw [HX.out]; exact HQ.out)
        case measure => simp [intOf]; omega
      · have HQ := Lib.hid hq
        have hd : decide (cf x < 0) = false := decide_eq_false hq
        go_wp2_with (go_at_fn g; refine hcall.mono ?_; rintro e w' ⟨rfl, hb0⟩; have hb' := HB.out.trans (hb0.mono sb))
        go_roundw
        case rel =>
          refine ⟨lo, (lo + hi) / 2, rfl, by rw [show ((lo : Int) + (hi : Int)) / 2 = (((lo + hi) / 2 : Nat) : Int) by omega], by omega, by omega, hb', I.out.1, fun y hy => ?_⟩
          obtain ⟨t, ht, rfl⟩ := List.getElem_of_mem hy
          rw [List.length_drop] at ht
          rw [List.getElem_drop]
          refine Int.not_lt.1 fun hh => ?_
          have := HM.out ((lo + hi) / 2) ((lo + hi) / 2 + t) (by omega) (by omega) hh
          rw [HX.out] at this
          have := HQ.out
          omega
        case measure => simp [intOf]; omega
    · obtain rfl : hi = lo := by omega
      by_cases hn : hi < l.length
      · obtain ⟨b, o, rfl, hbl, cw⟩ := Rd.row rowFl (by decide) (HR.out.below HB.out) hi hn
        generalize hx : l[hi] = x at cw
        have HX := Lib.hid hx
        clear hx
        have c0 := cw 0 (.int .u64 x.id) rfl
        have c1 := cw 1 (.int .i64 x.wt) rfl
        have c2 := cw 2 (.int .i64 x.pl) rfl
        rw [Nat.add_zero] at c0
        have hcall := HP.out _ x HB.out
        clear cw
        have hdn : decide ((hi : Int) < l.length) = true := decide_eq_true (by omega)
        go_wp2_with (go_at_fn g; refine hcall.mono ?_; rintro e w' ⟨rfl, hb0⟩; have hb' := HB.out.trans (hb0.mono sb))
        go_ret2
        exact ⟨hb', hi, cf x == 0, rfl, hin, I.out.1, I.out.2, by rw [beq_iff_eq]; exact ⟨fun h => ⟨hn, by rw [HX.out]; exact h⟩, fun ⟨_, h⟩ => by rw [HX.out] at h; exact h⟩⟩
      · have hdn : decide ((hi : Int) < l.length) = false := decide_eq_false (by omega)
        go_wp2_with fail
        go_ret2
        exact ⟨HB.out, hi, false, rfl, hin, I.out.1, I.out.2, ⟨fun h => (by cases h), fun ⟨h, _⟩ => absurd h hn⟩⟩
end Go.Proofs.Ytohjnplhmbfjlaa
