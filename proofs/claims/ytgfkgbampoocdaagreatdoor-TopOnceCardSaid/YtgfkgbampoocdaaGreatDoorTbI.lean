/- slices.Delete at a message. Printed by genslices.py. -/
import Derived.Test.YtgfkgbampoocdaaGreatDoorTbG
namespace Go.Proofs.YtgfkgbampoocdaaGreatDoor
open Go.RowKit

theorem zero_msg (w : World) : (zeroValue 39).run Tryz.prog w = .ok (.agg #[.int .i64 0, .int .u64 0, .slice none 0 0]) w := by kernel_rfl
set_option maxHeartbeats 1000000 in
theorem delete_msg (g n cap i j : Nat) (cs : List Value) (w : World) (hr : Rw w g cs 39) (hl : cs.length = cap * 3) (hn : n ≤ cap) (hm : cap ≤ 9223372036854775807) (hij : i ≤ j) (hj : j ≤ n) (h1c : ∀ u ∈ cs.take (n * 3), u.oneCell' = true) :
    Calls Tryz.prog 36 #[.slice (some ⟨g, 0, none⟩) n cap, .int .i64 i, .int .i64 j] w (DelPost g n cap i j cs 39 3 w) := by
  by_cases heq : i = j
  · subst heq
    have hp : DelPost g n cap i i cs 39 3 w (.returned (.slice (some ⟨g, 0, none⟩) n cap)) w :=
      ⟨by rw [Nat.sub_self, Nat.sub_zero], Kept.refl _ _, cs, hr, rfl, by
        rw [Nat.sub_self, Nat.sub_zero]
        have h2 : cs.take (i * 3) = (cs.take (n * 3)).take (i * 3) := by rw [List.take_take, Nat.min_eq_left (by omega)]
        rw [h2, List.take_append_drop]⟩
    have HP := Lib.hid hp
    clear hp hr
    go_enter Tryz.func36, Tryz.ntmps36
    go_wp2
    all_goals (go_ret; first | exact HP.out | (rw [show n = i by omega] at HP; exact HP.out))
  · have hlt : i < j := by omega
    obtain ⟨news, hnews⟩ : ∃ news, news = (cs.take (n * 3)).drop (j * 3) := ⟨_, rfl⟩
    have hnl : news.length = (n - j) * 3 := by rw [hnews, List.length_drop, List.length_take, hl]; omega
    have hn1 : ∀ u ∈ news, u.oneCell' = true := fun u hu => h1c u (by rw [hnews] at hu; exact List.mem_of_mem_drop hu)
    have hget : ∀ t u, news[t]? = some u → cs[j * 3 + t]? = some u := by
      intro t u hu
      rw [hnews, List.getElem?_drop, List.getElem?_take] at hu
      split at hu
      · exact hu
      · cases hu
    obtain ⟨ad, had, hsrc⟩ : ∃ ad : Addr, Hid ((if cap = j then some (⟨g, 0, none⟩ : Addr) else some ⟨g, j * 3, none⟩) = some ad) ∧ Hid (∀ t u, news[t]? = some u → w.drew.cell? (ad.add t) = some u) := by
      by_cases h : cap = j
      · refine ⟨⟨g, 0, none⟩, if_pos h, fun t u hu => ?_⟩
        have h0 : news.length = 0 := by rw [hnl]; omega
        rw [List.length_eq_zero_iff.1 h0] at hu
        simp at hu
      · refine ⟨⟨g, j * 3, none⟩, if_neg h, fun t u hu => ?_⟩
        rw [addr_add, hr.drew.cell, hget t u hu]
    have hW1 := hr.drew.sets news (i * 3) _ _ (by rw [hnl, hl]; omega)
    have hcl2 : (cs.take (i * 3) ++ news ++ cs.drop (i * 3 + news.length)).length = cs.length := by
      rw [List.length_append, List.length_append, List.length_take, List.length_drop]; rw [hnl, hl]; omega
    have hsp : Hid (∀ t, t < news.length → (w.drew.cell? ⟨g, 0 + i * 3 + t, none⟩).isSome = true ∧ w.drew.frozen? ⟨g, 0 + i * 3 + t, none⟩ = false) := by
      intro t ht
      rw [hnl] at ht
      rw [hr.drew.cell, List.getElem?_eq_getElem (by rw [hl]; omega)]
      exact ⟨rfl, hr.drew.free _⟩
    have hrun : ∀ ty c, (Builtin.clear_ #[65] ty #[.slice (some ⟨g, (i + (n - j)) * 3, none⟩) (n - (i + (n - j))) c]).run Tryz.prog (w.drew.setCells g (0 + i * 3) news) = .ok (.tuple #[]) ((w.drew.setCells g (0 + i * 3) news).setCells g ((i + (n - j)) * 3) (Builtin.zeroCells (Value.cells (.agg #[.int .i64 0, .int .u64 0, .slice none 0 0])) (n - (i + (n - j)))).toList) := by
      intro ty c
      rw [Nat.zero_add]
      exact run_clear Tryz.underlying65 zero_msg (by simp [Value.cells, Value.oneCell']) (by omega) hW1 (by rw [hcl2, hl]; simp [Value.cells]; omega)
    have hW2 := hW1.sets ((Builtin.zeroCells (Value.cells (.agg #[.int .i64 0, .int .u64 0, .slice none 0 0])) (n - (i + (n - j)))).toList) ((i + (n - j)) * 3) _ _ (by rw [hcl2, hl, zeroCells_len]; simp [Value.cells]; omega)
    have HL := Lib.hid (show _ = cs.length from by
      have e := (del_len (cs.take (i * 3) ++ news ++ cs.drop (i * 3 + news.length)) (Builtin.zeroCells (Value.cells (.agg #[.int .i64 0, .int .u64 0, .slice none 0 0])) (n - (i + (n - j)))).toList ((i + (n - j)) * 3) (by rw [hcl2, hl, zeroCells_len]; simp only [Value.cells]; show _ + _ * 3 ≤ _; omega))
      exact e.trans hcl2)
    have HT : Hid ((((cs.take (i * 3) ++ news ++ cs.drop (i * 3 + news.length)).take ((i + (n - j)) * 3) ++ (Builtin.zeroCells (Value.cells (.agg #[.int .i64 0, .int .u64 0, .slice none 0 0])) (n - (i + (n - j)))).toList ++ (cs.take (i * 3) ++ news ++ cs.drop (i * 3 + news.length)).drop ((i + (n - j)) * 3 + (Builtin.zeroCells (Value.cells (.agg #[.int .i64 0, .int .u64 0, .slice none 0 0])) (n - (i + (n - j)))).toList.length)).take ((n - (j - i)) * 3)) = cs.take (i * 3) ++ (cs.take (n * 3)).drop (j * 3)) := Lib.hid (show _ = cs.take (i * 3) ++ (cs.take (n * 3)).drop (j * 3) from by
      rw [← hnews]
      exact del_take (cs.take (i * 3)) news (cs.drop (i * 3 + news.length)) (Builtin.zeroCells (Value.cells (.agg #[.int .i64 0, .int .u64 0, .slice none 0 0])) (n - (i + (n - j)))).toList ((i + (n - j)) * 3) _ ((n - (j - i)) * 3) (by rw [List.length_take, hnl, hl]; omega) (by omega))
    have HR := Lib.hid hrun
    have HN := Lib.hid hnl
    have HN1 := Lib.hid hn1
    have HC := Lib.hid h1c
    clear hrun hnl h1c hget hW1 hcl2 hl hnews hr hn1
    have hic : i ≤ cap := by omega
    have hjc : j ≤ cap := by omega
    go_enter Tryz.func36, Tryz.ntmps36
    go_wp2_with fail
    refine wp_stands (M := (Only g)) (by kernel_rfl) ?_
    refine st_quiet [true, true, true, true, true, true, false, false] (by kernel_rfl) ?_
    simp only [pickAt]
    repeat (go_big_quiet_step (fail))
    refine wpQuiet_nil ?_
    refine st_act 6 rfl (by kernel_rfl) ?_
    refine run_want rfl ?_
    intro A hA
    refine wp_app_room (.tmp 22) (.tmp 25) 65 (by rfl) info_msg Tryz.underlying65 (b := g) (off := 0) (n := i) (cap := cap) (by rfl) (ad := ad) (m := n - j) (c := cap - j) (congrArg (fun x => Value.slice x (n - j) (cap - j)) had.out) HN.out hsrc.out HN1.out (by omega) hsp.out ?_
    refine hA _ _ ((Kept.refl _ _).sets _ _ _) ?_
    try simp only [Act.put, List.setIfInBounds_toArray, List.set_cons_zero, List.set_cons_succ]
    clear A hA
    have HK := Lib.hid ((Kept.refl (Only g) w).drewR.sets news (0 + i * 3) _)
    have HW := Lib.hid hW2
    clear hW2
    refine st_quiet [false, false, false, false, false, false, false, true] (by kernel_rfl) ?_
    simp only [pickAt]
    repeat (go_big_quiet_step (fail))
    refine wpQuiet_nil ?_
    refine st_done (by kernel_rfl) ?_
    have hcl := HR.out
    rw [Nat.zero_add] at *
    generalize w.drew.setCells g (i * 3) news = W1 at *
    have HP := Lib.hid (show DelPost g n cap i j cs 39 3 w (.returned (.slice (some ⟨g, 0, none⟩) (i + (n - j)) cap)) _ from ⟨by rw [show n - (j - i) = i + (n - j) by omega], HK.out.sets _ _ _, _, HW.out, HL.out, HT.out⟩)
    go_wp2_with fail
    all_goals (go_ret; first | exact HP.out | (rw [show cap = j by omega] at HP; exact HP.out))
end Go.Proofs.YtgfkgbampoocdaaGreatDoor
