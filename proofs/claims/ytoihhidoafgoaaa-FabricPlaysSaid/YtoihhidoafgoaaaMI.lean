/- The library's slice functions at frames. -/
import Derived.Test.YtoihhidoafgoaaaPoSl
import Derived.Test.YtoihhidoafgoaaaMH
import Derived.Test.YtoihhidoafgoaaaMF
import Derived.Laws.MakeOwn
namespace Go.Proofs.Ytoihhidoafgoaaa
open Go.RowKit
theorem info_fra : (Try.prog.info? 34).map (fun i => (i.zero, i.size, i.bytes)) = some (some (.agg #[.int .i64 0, .int .i64 0, .int .i64 0, .int .i64 0, .int .u64 0, .int .i64 0, .int .i64 0, .int .i64 0, .int .i64 0, .slice none 0 0]), 10, 96) := by kernel_rfl
theorem zero_fra (w : World) : (zeroValue 34).run Try.prog w = .ok (.agg #[.int .i64 0, .int .i64 0, .int .i64 0, .int .i64 0, .int .u64 0, .int .i64 0, .int .i64 0, .int .i64 0, .int .i64 0, .slice none 0 0]) w := by kernel_rfl
set_option maxHeartbeats 1000000 in
theorem delete_fra (g n cap i j : Nat) (cs : List Value) (w : World) (hr : Rw w g cs 34) (hl : cs.length = cap * 10) (hn : n ≤ cap) (hm : cap ≤ 9223372036854775807) (hij : i ≤ j) (hj : j ≤ n) (h1c : ∀ u ∈ cs.take (n * 10), u.oneCell' = true) :
    Calls Try.prog 42 #[.slice (some ⟨g, 0, none⟩) n cap, .int .i64 i, .int .i64 j] w (DelPost g n cap i j cs 34 10 w) := by
  by_cases heq : i = j
  · subst heq
    have hp : DelPost g n cap i i cs 34 10 w (.returned (.slice (some ⟨g, 0, none⟩) n cap)) w :=
      ⟨by rw [Nat.sub_self, Nat.sub_zero], Kept.refl _ _, cs, hr, rfl, by
        rw [Nat.sub_self, Nat.sub_zero]
        have h2 : cs.take (i * 10) = (cs.take (n * 10)).take (i * 10) := by rw [List.take_take, Nat.min_eq_left (by omega)]
        rw [h2, List.take_append_drop]⟩
    have HP := Lib.hid hp
    clear hp hr
    go_enter Try.func42, Try.ntmps42
    go_wp2
    all_goals (go_ret; first | exact HP.out | (rw [show n = i by omega] at HP; exact HP.out))
  · have hlt : i < j := by omega
    obtain ⟨news, hnews⟩ : ∃ news, news = (cs.take (n * 10)).drop (j * 10) := ⟨_, rfl⟩
    have hnl : news.length = (n - j) * 10 := by rw [hnews, List.length_drop, List.length_take, hl]; omega
    have hn1 : ∀ u ∈ news, u.oneCell' = true := fun u hu => h1c u (by rw [hnews] at hu; exact List.mem_of_mem_drop hu)
    have hget : ∀ t u, news[t]? = some u → cs[j * 10 + t]? = some u := by
      intro t u hu
      rw [hnews, List.getElem?_drop, List.getElem?_take] at hu
      split at hu
      · exact hu
      · cases hu
    obtain ⟨ad, had, hsrc⟩ : ∃ ad : Addr, Hid ((if cap = j then some (⟨g, 0, none⟩ : Addr) else some ⟨g, j * 10, none⟩) = some ad) ∧ Hid (∀ t u, news[t]? = some u → w.drew.cell? (ad.add t) = some u) := by
      by_cases h : cap = j
      · refine ⟨⟨g, 0, none⟩, if_pos h, fun t u hu => ?_⟩
        have h0 : news.length = 0 := by rw [hnl]; omega
        rw [List.length_eq_zero_iff.1 h0] at hu
        simp at hu
      · refine ⟨⟨g, j * 10, none⟩, if_neg h, fun t u hu => ?_⟩
        rw [addr_add, hr.drew.cell, hget t u hu]
    have hW1 := hr.drew.sets news (i * 10) _ _ (by rw [hnl, hl]; omega)
    have hcl2 : (cs.take (i * 10) ++ news ++ cs.drop (i * 10 + news.length)).length = cs.length := by
      rw [List.length_append, List.length_append, List.length_take, List.length_drop]; rw [hnl, hl]; omega
    have hsp : Hid (∀ t, t < news.length → (w.drew.cell? ⟨g, 0 + i * 10 + t, none⟩).isSome = true ∧ w.drew.frozen? ⟨g, 0 + i * 10 + t, none⟩ = false) := by
      intro t ht
      rw [hnl] at ht
      rw [hr.drew.cell, List.getElem?_eq_getElem (by rw [hl]; omega)]
      exact ⟨rfl, hr.drew.free _⟩
    have hrun : ∀ ty c, (Builtin.clear_ #[63] ty #[.slice (some ⟨g, (i + (n - j)) * 10, none⟩) (n - (i + (n - j))) c]).run Try.prog (w.drew.setCells g (0 + i * 10) news) = .ok (.tuple #[]) ((w.drew.setCells g (0 + i * 10) news).setCells g ((i + (n - j)) * 10) (Builtin.zeroCells (Value.cells (.agg #[.int .i64 0, .int .i64 0, .int .i64 0, .int .i64 0, .int .u64 0, .int .i64 0, .int .i64 0, .int .i64 0, .int .i64 0, .slice none 0 0])) (n - (i + (n - j)))).toList) := by
      intro ty c
      rw [Nat.zero_add]
      exact run_clear Try.underlying63 zero_fra (by simp [Value.cells, Value.oneCell']) (by omega) hW1 (by rw [hcl2, hl]; simp [Value.cells]; omega)
    have hW2 := hW1.sets ((Builtin.zeroCells (Value.cells (.agg #[.int .i64 0, .int .i64 0, .int .i64 0, .int .i64 0, .int .u64 0, .int .i64 0, .int .i64 0, .int .i64 0, .int .i64 0, .slice none 0 0])) (n - (i + (n - j)))).toList) ((i + (n - j)) * 10) _ _ (by rw [hcl2, hl, zeroCells_len]; simp [Value.cells]; omega)
    have HL := Lib.hid (show _ = cs.length from by
      have e := (del_len (cs.take (i * 10) ++ news ++ cs.drop (i * 10 + news.length)) (Builtin.zeroCells (Value.cells (.agg #[.int .i64 0, .int .i64 0, .int .i64 0, .int .i64 0, .int .u64 0, .int .i64 0, .int .i64 0, .int .i64 0, .int .i64 0, .slice none 0 0])) (n - (i + (n - j)))).toList ((i + (n - j)) * 10) (by rw [hcl2, hl, zeroCells_len]; simp only [Value.cells]; show _ + _ * 10 ≤ _; omega))
      exact e.trans hcl2)
    have HT : Hid ((((cs.take (i * 10) ++ news ++ cs.drop (i * 10 + news.length)).take ((i + (n - j)) * 10) ++ (Builtin.zeroCells (Value.cells (.agg #[.int .i64 0, .int .i64 0, .int .i64 0, .int .i64 0, .int .u64 0, .int .i64 0, .int .i64 0, .int .i64 0, .int .i64 0, .slice none 0 0])) (n - (i + (n - j)))).toList ++ (cs.take (i * 10) ++ news ++ cs.drop (i * 10 + news.length)).drop ((i + (n - j)) * 10 + (Builtin.zeroCells (Value.cells (.agg #[.int .i64 0, .int .i64 0, .int .i64 0, .int .i64 0, .int .u64 0, .int .i64 0, .int .i64 0, .int .i64 0, .int .i64 0, .slice none 0 0])) (n - (i + (n - j)))).toList.length)).take ((n - (j - i)) * 10)) = cs.take (i * 10) ++ (cs.take (n * 10)).drop (j * 10)) := Lib.hid (show _ = cs.take (i * 10) ++ (cs.take (n * 10)).drop (j * 10) from by
      rw [← hnews]
      exact del_take (cs.take (i * 10)) news (cs.drop (i * 10 + news.length)) (Builtin.zeroCells (Value.cells (.agg #[.int .i64 0, .int .i64 0, .int .i64 0, .int .i64 0, .int .u64 0, .int .i64 0, .int .i64 0, .int .i64 0, .int .i64 0, .slice none 0 0])) (n - (i + (n - j)))).toList ((i + (n - j)) * 10) _ ((n - (j - i)) * 10) (by rw [List.length_take, hnl, hl]; omega) (by omega))
    have HR := Lib.hid hrun
    have HN := Lib.hid hnl
    have HN1 := Lib.hid hn1
    have HC := Lib.hid h1c
    clear hrun hnl h1c hget hW1 hcl2 hl hnews hr hn1
    have hic : i ≤ cap := by omega
    have hjc : j ≤ cap := by omega
    go_enter Try.func42, Try.ntmps42
    go_wp2_with fail
    refine wp_stands (M := (Only g)) (by kernel_rfl) ?_
    refine st_quiet [true, true, true, true, true, true, false, false] (by kernel_rfl) ?_
    simp only [pickAt]
    repeat (go_big_quiet_step (fail))
    refine wpQuiet_nil ?_
    refine st_act 6 rfl (by kernel_rfl) ?_
    refine run_want rfl ?_
    intro A hA
    refine wp_app_room (.tmp 22) (.tmp 25) 63 (by rfl) info_fra Try.underlying63 (b := g) (off := 0) (n := i) (cap := cap) (by rfl) (ad := ad) (m := n - j) (c := cap - j) (congrArg (fun x => Value.slice x (n - j) (cap - j)) had.out) HN.out hsrc.out HN1.out (by omega) hsp.out ?_
    refine hA _ _ ((Kept.refl _ _).sets _ _ _) ?_
    try simp only [Act.put, List.setIfInBounds_toArray, List.set_cons_zero, List.set_cons_succ]
    clear A hA
    have HK := Lib.hid ((Kept.refl (Only g) w).drewR.sets news (0 + i * 10) _)
    have HW := Lib.hid hW2
    clear hW2
    refine st_quiet [false, false, false, false, false, false, false, true] (by kernel_rfl) ?_
    simp only [pickAt]
    repeat (go_big_quiet_step (fail))
    refine wpQuiet_nil ?_
    refine st_done (by kernel_rfl) ?_
    have hcl := HR.out
    rw [Nat.zero_add] at *
    generalize w.drew.setCells g (i * 10) news = W1 at *
    have HP := Lib.hid (show DelPost g n cap i j cs 34 10 w (.returned (.slice (some ⟨g, 0, none⟩) (i + (n - j)) cap)) _ from ⟨by rw [show n - (j - i) = i + (n - j) by omega], HK.out.sets _ _ _, _, HW.out, HL.out, HT.out⟩)
    go_wp2_with fail
    all_goals (go_ret; first | exact HP.out | (rw [show cap = j by omega] at HP; exact HP.out))
end Go.Proofs.Ytoihhidoafgoaaa
/- The fabric (chapter 15): Take. -/
namespace Go.Proofs.Ytoihhidoafgoaaa
open Go.RowKit

def noFr : Value := .agg #[.int .i64 0, .int .i64 0, .int .i64 0, .int .i64 0, .int .u64 0, .int .i64 0, .int .i64 0, .int .i64 0, .int .i64 0, .slice none 0 0]
section
variable {f B0 : Nat} {l : Fl} {s : Fs} {w w' : World}
def TakeNo (w : World) (e : Ending) (w' : World) : Prop := e = .returned (.tuple #[noFr, .bool false]) ∧ Below w.heap.size w w'
set_option maxRecDepth 100000 in
set_option maxHeartbeats 4000000 in
theorem take_no0 (h : Fa f B0 l s w) {k : Int} (hk : k < 0 ∨ (s.H : Int) ≤ k) : Calls Try.prog 13 #[.pointer (some ⟨f, 0, none⟩), .int .i64 k] w (TakeNo w) := by
  have HF := Lib.hid h
  clear h
  go_enter Try.func13, Try.ntmps13
  go_upto_region 1 with fail
  have OV := Lib.hid (Ob.new w #[.int .i64 0, .int .i64 0, .int .i64 0, .int .i64 0, .int .u64 0, .int .i64 0, .int .i64 0, .int .i64 0, .int .i64 0, .slice none 0 0] TFr)
  have HB := Lib.hid ((Below.refl w.heap.size w).alloc (Nat.le_refl _) (.cells #[.int .i64 0, .int .i64 0, .int .i64 0, .int .i64 0, .int .u64 0, .int .i64 0, .int .i64 0, .int .i64 0, .int .i64 0, .slice none 0 0] TFr))
  have F1 := Lib.hid (HF.out.below HB.out)
  generalize w.alloc (.cells #[.int .i64 0, .int .i64 0, .int .i64 0, .int .i64 0, .int .u64 0, .int .i64 0, .int .i64 0, .int .i64 0, .int .i64 0, .slice none 0 0] TFr) = w1 at *
  obtain ⟨X, HX⟩ : ∃ X, Hid (w.heap.size = X) := ⟨_, Lib.hid rfl⟩
  rw [HX.out] at OV ⊢
  obtain ⟨lx, cx, fx⟩ := OV.out.blk
  have cx0 : w1.cell? ⟨X, 0, none⟩ = some (.int .i64 0) := cx 0
  have cx1 : w1.cell? ⟨X, 1, none⟩ = some (.int .i64 0) := cx 1
  have cx2 : w1.cell? ⟨X, 2, none⟩ = some (.int .i64 0) := cx 2
  have cx3 : w1.cell? ⟨X, 3, none⟩ = some (.int .i64 0) := cx 3
  have cx4 : w1.cell? ⟨X, 4, none⟩ = some (.int .u64 0) := cx 4
  have cx5 : w1.cell? ⟨X, 5, none⟩ = some (.int .i64 0) := cx 5
  have cx6 : w1.cell? ⟨X, 6, none⟩ = some (.int .i64 0) := cx 6
  have cx7 : w1.cell? ⟨X, 7, none⟩ = some (.int .i64 0) := cx 7
  have cx8 : w1.cell? ⟨X, 8, none⟩ = some (.int .i64 0) := cx 8
  have cx9 : w1.cell? ⟨X, 9, none⟩ = some (.slice none 0 0) := cx 9
  clear cx
  go_wp2_with fail
  refine (has_no F1.out hk).mono ?_
  rintro e w2 ⟨rfl, rfl⟩
  go_wp2_with fail
  have hw : ((((((((((w1.setCell ⟨X, 0, none⟩ (.int .i64 0)).setCell ⟨X, 1, none⟩ (.int .i64 0)).setCell ⟨X, 2, none⟩ (.int .i64 0)).setCell ⟨X, 3, none⟩ (.int .i64 0)).setCell ⟨X, 4, none⟩ (.int .u64 0)).setCell ⟨X, 5, none⟩ (.int .i64 0)).setCell ⟨X, 6, none⟩ (.int .i64 0)).setCell ⟨X, 7, none⟩ (.int .i64 0)).setCell ⟨X, 8, none⟩ (.int .i64 0)).setCell ⟨X, 9, none⟩ (.slice none 0 0)) = w1.setCells X 0 [.int .i64 0, .int .i64 0, .int .i64 0, .int .i64 0, .int .u64 0, .int .i64 0, .int .i64 0, .int .i64 0, .int .i64 0, .slice none 0 0] := rfl
  rw [hw]
  clear hw
  have OF := Lib.hid (OV.out.sets [.int .i64 0, .int .i64 0, .int .i64 0, .int .i64 0, .int .u64 0, .int .i64 0, .int .i64 0, .int .i64 0, .int .i64 0, .slice none 0 0] rfl)
  have HBF := Lib.hid (Below.sets HB.out (Nat.le_of_eq HX.out) HB.out.size [.int .i64 0, .int .i64 0, .int .i64 0, .int .i64 0, .int .u64 0, .int .i64 0, .int .i64 0, .int .i64 0, .int .i64 0, .slice none 0 0])
  generalize w1.setCells X 0 [.int .i64 0, .int .i64 0, .int .i64 0, .int .i64 0, .int .u64 0, .int .i64 0, .int .i64 0, .int .i64 0, .int .i64 0, .slice none 0 0] = F at *
  clear lx fx cx0 cx1 cx2 cx3 cx4 cx5 cx6 cx7 cx8 cx9
  obtain ⟨lf, cf, ff⟩ := OF.out.blk
  have cf0 : F.cell? ⟨X, 0, none⟩ = some (.int .i64 0) := cf 0
  have cf1 : F.cell? ⟨X, 1, none⟩ = some (.int .i64 0) := cf 1
  have cf2 : F.cell? ⟨X, 2, none⟩ = some (.int .i64 0) := cf 2
  have cf3 : F.cell? ⟨X, 3, none⟩ = some (.int .i64 0) := cf 3
  have cf4 : F.cell? ⟨X, 4, none⟩ = some (.int .u64 0) := cf 4
  have cf5 : F.cell? ⟨X, 5, none⟩ = some (.int .i64 0) := cf 5
  have cf6 : F.cell? ⟨X, 6, none⟩ = some (.int .i64 0) := cf 6
  have cf7 : F.cell? ⟨X, 7, none⟩ = some (.int .i64 0) := cf 7
  have cf8 : F.cell? ⟨X, 8, none⟩ = some (.int .i64 0) := cf 8
  have cf9 : F.cell? ⟨X, 9, none⟩ = some (.slice none 0 0) := cf 9
  clear cf
  refine done (.tuple #[noFr, .bool false]) rfl (by simp [noFr, results, Try.results13, go_sem, cf0, cf1, cf2, cf3, cf4, cf5, cf6, cf7, cf8, cf9]) ⟨rfl, HBF.out⟩

set_option maxRecDepth 100000 in
set_option maxHeartbeats 4000000 in
theorem take_no1 (h : Fa f B0 l s w) {k : Nat} (hk : k < s.H) (hA : s.A k = []) : Calls Try.prog 13 #[.pointer (some ⟨f, 0, none⟩), .int .i64 k] w (TakeNo w) := by
  have HF := Lib.hid h
  have hh := h.hs.h
  have HA := Lib.hid (show (s.A k).length = 0 by rw [hA]; rfl)
  clear h hA
  go_enter Try.func13, Try.ntmps13
  go_upto_region 1 with fail
  have OV := Lib.hid (Ob.new w #[.int .i64 0, .int .i64 0, .int .i64 0, .int .i64 0, .int .u64 0, .int .i64 0, .int .i64 0, .int .i64 0, .int .i64 0, .slice none 0 0] TFr)
  have HB := Lib.hid ((Below.refl w.heap.size w).alloc (Nat.le_refl _) (.cells #[.int .i64 0, .int .i64 0, .int .i64 0, .int .i64 0, .int .u64 0, .int .i64 0, .int .i64 0, .int .i64 0, .int .i64 0, .slice none 0 0] TFr))
  have F1 := Lib.hid (HF.out.below HB.out)
  generalize w.alloc (.cells #[.int .i64 0, .int .i64 0, .int .i64 0, .int .i64 0, .int .u64 0, .int .i64 0, .int .i64 0, .int .i64 0, .int .i64 0, .slice none 0 0] TFr) = w1 at *
  obtain ⟨X, HX⟩ : ∃ X, Hid (w.heap.size = X) := ⟨_, Lib.hid rfl⟩
  rw [HX.out] at OV ⊢
  obtain ⟨lx, cx, fx⟩ := OV.out.blk
  have cx0 : w1.cell? ⟨X, 0, none⟩ = some (.int .i64 0) := cx 0
  have cx1 : w1.cell? ⟨X, 1, none⟩ = some (.int .i64 0) := cx 1
  have cx2 : w1.cell? ⟨X, 2, none⟩ = some (.int .i64 0) := cx 2
  have cx3 : w1.cell? ⟨X, 3, none⟩ = some (.int .i64 0) := cx 3
  have cx4 : w1.cell? ⟨X, 4, none⟩ = some (.int .u64 0) := cx 4
  have cx5 : w1.cell? ⟨X, 5, none⟩ = some (.int .i64 0) := cx 5
  have cx6 : w1.cell? ⟨X, 6, none⟩ = some (.int .i64 0) := cx 6
  have cx7 : w1.cell? ⟨X, 7, none⟩ = some (.int .i64 0) := cx 7
  have cx8 : w1.cell? ⟨X, 8, none⟩ = some (.int .i64 0) := cx 8
  have cx9 : w1.cell? ⟨X, 9, none⟩ = some (.slice none 0 0) := cx 9
  clear cx
  obtain ⟨l0, c0, c1, c2, c3⟩ := F1.out.cells
  obtain ⟨la, ca, fa⟩ := F1.out.acell
  obtain ⟨av, cv, hv, hv1, hv2⟩ := F1.out.row_form hk
  have cak := (ca k hk).trans (congrArg some hv)
  rw [HA.out] at cak
  clear ca c0 c1 c3 hv
  go_wp2_with fail
  refine (has_yes F1.out hk).mono ?_
  rintro e w2 ⟨rfl, rfl⟩
  go_wp2_with fail
  have hw : ((((((((((w1.setCell ⟨X, 0, none⟩ (.int .i64 0)).setCell ⟨X, 1, none⟩ (.int .i64 0)).setCell ⟨X, 2, none⟩ (.int .i64 0)).setCell ⟨X, 3, none⟩ (.int .i64 0)).setCell ⟨X, 4, none⟩ (.int .u64 0)).setCell ⟨X, 5, none⟩ (.int .i64 0)).setCell ⟨X, 6, none⟩ (.int .i64 0)).setCell ⟨X, 7, none⟩ (.int .i64 0)).setCell ⟨X, 8, none⟩ (.int .i64 0)).setCell ⟨X, 9, none⟩ (.slice none 0 0)) = w1.setCells X 0 [.int .i64 0, .int .i64 0, .int .i64 0, .int .i64 0, .int .u64 0, .int .i64 0, .int .i64 0, .int .i64 0, .int .i64 0, .slice none 0 0] := rfl
  rw [hw]
  clear hw
  have OF := Lib.hid (OV.out.sets [.int .i64 0, .int .i64 0, .int .i64 0, .int .i64 0, .int .u64 0, .int .i64 0, .int .i64 0, .int .i64 0, .int .i64 0, .slice none 0 0] rfl)
  have HBF := Lib.hid (Below.sets HB.out (Nat.le_of_eq HX.out) HB.out.size [.int .i64 0, .int .i64 0, .int .i64 0, .int .i64 0, .int .u64 0, .int .i64 0, .int .i64 0, .int .i64 0, .int .i64 0, .slice none 0 0])
  generalize w1.setCells X 0 [.int .i64 0, .int .i64 0, .int .i64 0, .int .i64 0, .int .u64 0, .int .i64 0, .int .i64 0, .int .i64 0, .int .i64 0, .slice none 0 0] = F at *
  clear lx fx cx0 cx1 cx2 cx3 cx4 cx5 cx6 cx7 cx8 cx9
  obtain ⟨lf, cf, ff⟩ := OF.out.blk
  have cf0 : F.cell? ⟨X, 0, none⟩ = some (.int .i64 0) := cf 0
  have cf1 : F.cell? ⟨X, 1, none⟩ = some (.int .i64 0) := cf 1
  have cf2 : F.cell? ⟨X, 2, none⟩ = some (.int .i64 0) := cf 2
  have cf3 : F.cell? ⟨X, 3, none⟩ = some (.int .i64 0) := cf 3
  have cf4 : F.cell? ⟨X, 4, none⟩ = some (.int .u64 0) := cf 4
  have cf5 : F.cell? ⟨X, 5, none⟩ = some (.int .i64 0) := cf 5
  have cf6 : F.cell? ⟨X, 6, none⟩ = some (.int .i64 0) := cf 6
  have cf7 : F.cell? ⟨X, 7, none⟩ = some (.int .i64 0) := cf 7
  have cf8 : F.cell? ⟨X, 8, none⟩ = some (.int .i64 0) := cf 8
  have cf9 : F.cell? ⟨X, 9, none⟩ = some (.slice none 0 0) := cf 9
  clear cf
  refine done (.tuple #[noFr, .bool false]) rfl (by simp [noFr, results, Try.results13, go_sem, cf0, cf1, cf2, cf3, cf4, cf5, cf6, cf7, cf8, cf9]) ⟨rfl, HBF.out⟩

def TakeYes (f B0 : Nat) (l : Fl) (s : Fs) (k : Nat) (x : It) (r : List It) (w : World) (e : Ending) (w' : World) : Prop := e = .returned (.tuple #[x.frv, .bool true]) ∧ FaPost f B0 l s { s with A := upd s.A k r } w w'
set_option maxRecDepth 100000 in
set_option maxHeartbeats 4000000 in
theorem take_yes (h : Fa f B0 l s w) {k : Nat} {x : It} {r : List It} (hk : k < s.H) (hA : s.A k = x :: r) (hl : (s.A k).length ≤ 1000000) : Calls Try.prog 13 #[.pointer (some ⟨f, 0, none⟩), .int .i64 k] w (TakeYes f B0 l s k x r w) := by
  have HF := Lib.hid h
  have hh := h.hs.h
  have HA := Lib.hid hA
  have HLR := Lib.hid (show (s.A k).length = r.length + 1 by rw [hA]; rfl)
  have hlp : 0 < (s.A k).length := by rw [HLR.out]; omega
  clear h hA
  go_enter Try.func13, Try.ntmps13
  go_upto_region 1 with fail
  have OV := Lib.hid (Ob.new w #[.int .i64 0, .int .i64 0, .int .i64 0, .int .i64 0, .int .u64 0, .int .i64 0, .int .i64 0, .int .i64 0, .int .i64 0, .slice none 0 0] TFr)
  have HB := Lib.hid ((Below.refl w.heap.size w).alloc (Nat.le_refl _) (.cells #[.int .i64 0, .int .i64 0, .int .i64 0, .int .i64 0, .int .u64 0, .int .i64 0, .int .i64 0, .int .i64 0, .int .i64 0, .slice none 0 0] TFr))
  have F1 := Lib.hid (HF.out.below HB.out)
  generalize w.alloc (.cells #[.int .i64 0, .int .i64 0, .int .i64 0, .int .i64 0, .int .u64 0, .int .i64 0, .int .i64 0, .int .i64 0, .int .i64 0, .slice none 0 0] TFr) = w1 at *
  obtain ⟨X, HX⟩ : ∃ X, Hid (w.heap.size = X) := ⟨_, Lib.hid rfl⟩
  rw [HX.out] at OV ⊢
  obtain ⟨lx, cx, fx⟩ := OV.out.blk
  have cx0 : w1.cell? ⟨X, 0, none⟩ = some (.int .i64 0) := cx 0
  have cx1 : w1.cell? ⟨X, 1, none⟩ = some (.int .i64 0) := cx 1
  have cx2 : w1.cell? ⟨X, 2, none⟩ = some (.int .i64 0) := cx 2
  have cx3 : w1.cell? ⟨X, 3, none⟩ = some (.int .i64 0) := cx 3
  have cx4 : w1.cell? ⟨X, 4, none⟩ = some (.int .u64 0) := cx 4
  have cx5 : w1.cell? ⟨X, 5, none⟩ = some (.int .i64 0) := cx 5
  have cx6 : w1.cell? ⟨X, 6, none⟩ = some (.int .i64 0) := cx 6
  have cx7 : w1.cell? ⟨X, 7, none⟩ = some (.int .i64 0) := cx 7
  have cx8 : w1.cell? ⟨X, 8, none⟩ = some (.int .i64 0) := cx 8
  have cx9 : w1.cell? ⟨X, 9, none⟩ = some (.slice none 0 0) := cx 9
  clear cx
  obtain ⟨l0, c0, c1, c2, c3⟩ := F1.out.cells
  obtain ⟨la, ca, fa⟩ := F1.out.acell
  have hrow := F1.out.rows k hk
  obtain ⟨g, c, hv', hBg, hc1, hc2, hgw, hgc, _⟩ := own_some hrow (by omega)
  have cak := (ca k hk).trans (congrArg some hv')
  have HV := Lib.hid hv'
  rw [hv'] at hrow
  obtain ⟨_, _, _, hxl, cs, hrw, hcl, hct⟩ := own_row hrow
  have HRW := Lib.hid hrw
  have HCL := Lib.hid hcl
  have HCT := Lib.hid hct
  have g0 : ∀ j u, (x.fro)[j]? = some u → w1.cell? ⟨g, j, none⟩ = some u := fun j u hj => hgc j u (by
    rw [HA.out, List.flatMap_cons]
    exact getElem?_app hj)
  have cg0 := g0 0 _ rfl
  have cg1 := g0 1 _ rfl
  have cg2 := g0 2 _ rfl
  have cg3 := g0 3 _ rfl
  have cg4 := g0 4 _ rfl
  have cg5 := g0 5 _ rfl
  have cg6 := g0 6 _ rfl
  have cg7 := g0 7 _ rfl
  have cg8 := g0 8 _ rfl
  have cg9 := g0 9 _ rfl
  clear ca c0 c1 c3 hv' g0 hgc hrw hcl hct hxl hrow
  go_wp2_with fail
  refine (has_yes F1.out hk).mono ?_
  rintro e w2 ⟨rfl, rfl⟩
  go_upto_region 4 with fail
  have OI : Hid (Ob (w1.alloc (.cells #[.int .i64 x.kind, .int .i64 x.src, .int .i64 x.dst, .int .i64 x.prio, .int .u64 x.msg, .int .i64 x.off, .int .i64 x.len, .int .i64 x.total, .int .i64 x.num, .slice x.da x.dn x.dc] TFr)) w1.heap.size #[.int .i64 x.kind, .int .i64 x.src, .int .i64 x.dst, .int .i64 x.prio, .int .u64 x.msg, .int .i64 x.off, .int .i64 x.len, .int .i64 x.total, .int .i64 x.num, .slice x.da x.dn x.dc] TFr) := Lib.hid (Ob.new _ _ _)
  have KA : Hid (Kept (fun _ => False) w1 (w1.alloc (.cells #[.int .i64 x.kind, .int .i64 x.src, .int .i64 x.dst, .int .i64 x.prio, .int .u64 x.msg, .int .i64 x.off, .int .i64 x.len, .int .i64 x.total, .int .i64 x.num, .slice x.da x.dn x.dc] TFr))) := Lib.hid ((Kept.refl _ _).alloc _)
  have F2 := Lib.hid (F1.out.keptF KA.out)
  have OV2 := Lib.hid (OV.out.kept KA.out (fun h => h))
  have R2 := Lib.hid (HRW.out.kept KA.out (fun h => h))
  have hgX : ¬ Only g X := fun hh => by
    have h1 := ((HF.out.rows k hk).lt g (by rw [HV.out]; rfl)).2
    have h2 := HX.out
    have h3 : X = g := hh
    omega
  have hgZ : ¬ Only g w1.heap.size := fun hh => by have : w1.heap.size = g := hh; omega
  have hXZ : X ≠ w1.heap.size := fun hh => by have := OV.out.lt; omega
  clear l0 c2 la fa cak cg0 cg1 cg2 cg3 cg4 cg5 cg6 cg7 cg8 cg9 lx fx cx0 cx1 cx2 cx3 cx4 cx5 cx6 cx7 cx8 cx9
  obtain ⟨Z, HZ⟩ : ∃ Z, Hid (w1.heap.size = Z) := ⟨_, Lib.hid rfl⟩
  rw [HZ.out] at OI hgZ hXZ ⊢
  clear hgw
  generalize w1.alloc (.cells #[.int .i64 x.kind, .int .i64 x.src, .int .i64 x.dst, .int .i64 x.prio, .int .u64 x.msg, .int .i64 x.off, .int .i64 x.len, .int .i64 x.total, .int .i64 x.num, .slice x.da x.dn x.dc] TFr) = w2 at *
  obtain ⟨l0, c0, c1, c2, c3⟩ := F2.out.cells
  obtain ⟨la, ca, fa⟩ := F2.out.acell
  have cak := (ca k hk).trans (congrArg some HV.out)
  have hgM : ∀ y, Only g y → Lm (l.V k) y := fun y hy => by
    have : y = g := hy
    subst this
    show (l.V k).ownBlock = some y
    rw [HV.out]; rfl
  have hrT := own_ty (F2.out.rows k hk) (hgM g rfl)
  have hMf : ¬ Only g f := fun hh => absurd (hrT.one (by rw [← show f = g from hh]; exact F2.out.ob.ty)) (by decide)
  have hMa : ¬ Only g l.ag := fun hh => absurd (hrT.one (by rw [← show l.ag = g from hh]; exact own_ty F2.out.arr rfl)) (by decide)
  have HRT := Lib.hid hrT
  clear ca c0 c1 c3 hrT
  refine wp_heads (M := (Only g)) 14 (by kernel_rfl) (by kernel_rfl) ?_
  refine hd_quiet [true, true, true, true, true, true, true, true, true, true, true, true, false, false, false] (by kernel_rfl) ?_
  simp only [pickAt]
  repeat (go_big_quiet_step (fail))
  refine wpQuiet_nil ?_
  refine hd_act 12 rfl (by kernel_rfl) ?_
  refine run_want rfl ?_
  intro A hA
  go_simp
  refine (delete_fra g (s.A k).length c 0 1 cs w2.drew (R2.out.kept (Kept.drew (fun _ => False) w2) (fun h => h)) HCL.out (by omega) (by omega) (by omega) (by omega) (by rw [HCT.out]; exact one_frrows _)).mono ?_
  rintro e w6 ⟨rfl, hk6, cs', hr6, hl6, ht6⟩
  have hn1 : (s.A k).length - (1 - 0) = r.length := by have := HLR.out; omega
  rw [hn1] at ht6 ⊢
  have K6 : Hid (Kept (Only g) w2 w6) := Lib.hid ((Kept.drew _ w2).trans hk6)
  have O6 : w6.ownsRow B0 TFr 10 (.slice (some ⟨g, 0, none⟩) r.length c) r.length (r.flatMap It.fro) := by
    refine row_own hBg (by have := HLR.out; omega) (by omega) hr6 (by rw [hl6]; exact HCL.out) ?_
    rw [ht6]
    have h1 : cs.take ((s.A k).length * 10) = (x :: r).flatMap It.fro := by rw [HCT.out, HA.out]
    have h2 : (x :: r).flatMap It.fro = x.fro ++ r.flatMap It.fro := List.flatMap_cons ..
    rw [h1, h2]
    simp [It.fro]
  have R6 := Lib.hid (F2.out.row hk (K6.out.mono fun y _ hy => hgM y hy) O6 (.inl (by rw [HV.out]; rfl)) (fun z hz => .inl (by rw [HA.out]; exact List.mem_cons_of_mem _ hz)))
  have la6 : l.ag < w6.heap.size := Nat.lt_of_lt_of_le la K6.out.size
  have fa6 : ∀ i, w6.frozen? ⟨l.ag, i, none⟩ = false := fun i => (K6.out.frozen l.ag i la hMa).trans (fa i)
  have ca6 : w6.cell? ⟨l.ag, k, none⟩ = some (.slice (some ⟨g, 0, none⟩) (s.A k).length c) := (K6.out.cell l.ag k la hMa).trans cak
  have OV6 := Lib.hid (OV2.out.kept K6.out hgX)
  have OI6 := Lib.hid (OI.out.kept K6.out hgZ)
  refine hA _ _ (hk6) ?_
  try simp only [Act.put, List.setIfInBounds_toArray, List.set_cons_zero, List.set_cons_succ]
  clear A hA
  clear hk6 hr6 hl6 ht6 O6 l0 c2 la fa cak
  refine hd_quiet [false, false, false, false, false, false, false, false, false, false, false, false, false, true, false] (by kernel_rfl) ?_
  simp only [pickAt]
  repeat (go_big_quiet_step (fail))
  refine wpQuiet_nil ?_
  refine hd_tail rfl (by kernel_rfl) ?_
  simp only [List.drop_succ_cons, List.drop_zero]
  go_wp2
  refine NoPanic.normal ?_
  go_upto_region 5 with fail
  have hXa : X ≠ l.ag := fun hh => absurd (Ty.one (hh ▸ OV2.out.ty) (own_ty F2.out.arr rfl)) (by decide)
  have hZa : Z ≠ l.ag := fun hh => absurd (Ty.one (hh ▸ OI.out.ty) (own_ty F2.out.arr rfl)) (by decide)
  have OV7 := Lib.hid (OV6.out.other ⟨l.ag, k, none⟩ (.slice (some ⟨g, 0, none⟩) r.length c) hXa)
  have OI7 := Lib.hid (OI6.out.other ⟨l.ag, k, none⟩ (.slice (some ⟨g, 0, none⟩) r.length c) hZa)
  clear la6 fa6 ca6
  generalize w6.setCell ⟨l.ag, k, none⟩ (.slice (some ⟨g, 0, none⟩) r.length c) = w7 at *
  obtain ⟨lz, cz, fz⟩ := OI7.out.blk
  have cz0 : w7.cell? ⟨Z, 0, none⟩ = some (.int .i64 x.kind) := cz 0
  have cz1 : w7.cell? ⟨Z, 1, none⟩ = some (.int .i64 x.src) := cz 1
  have cz2 : w7.cell? ⟨Z, 2, none⟩ = some (.int .i64 x.dst) := cz 2
  have cz3 : w7.cell? ⟨Z, 3, none⟩ = some (.int .i64 x.prio) := cz 3
  have cz4 : w7.cell? ⟨Z, 4, none⟩ = some (.int .u64 x.msg) := cz 4
  have cz5 : w7.cell? ⟨Z, 5, none⟩ = some (.int .i64 x.off) := cz 5
  have cz6 : w7.cell? ⟨Z, 6, none⟩ = some (.int .i64 x.len) := cz 6
  have cz7 : w7.cell? ⟨Z, 7, none⟩ = some (.int .i64 x.total) := cz 7
  have cz8 : w7.cell? ⟨Z, 8, none⟩ = some (.int .i64 x.num) := cz 8
  have cz9 : w7.cell? ⟨Z, 9, none⟩ = some (.slice x.da x.dn x.dc) := cz 9
  clear cz
  obtain ⟨lx, cx, fx⟩ := OV7.out.blk
  have cx0 : w7.cell? ⟨X, 0, none⟩ = some (.int .i64 0) := cx 0
  have cx1 : w7.cell? ⟨X, 1, none⟩ = some (.int .i64 0) := cx 1
  have cx2 : w7.cell? ⟨X, 2, none⟩ = some (.int .i64 0) := cx 2
  have cx3 : w7.cell? ⟨X, 3, none⟩ = some (.int .i64 0) := cx 3
  have cx4 : w7.cell? ⟨X, 4, none⟩ = some (.int .u64 0) := cx 4
  have cx5 : w7.cell? ⟨X, 5, none⟩ = some (.int .i64 0) := cx 5
  have cx6 : w7.cell? ⟨X, 6, none⟩ = some (.int .i64 0) := cx 6
  have cx7 : w7.cell? ⟨X, 7, none⟩ = some (.int .i64 0) := cx 7
  have cx8 : w7.cell? ⟨X, 8, none⟩ = some (.int .i64 0) := cx 8
  have cx9 : w7.cell? ⟨X, 9, none⟩ = some (.slice none 0 0) := cx 9
  clear cx
  go_wp2_with fail
  have hw : ((((((((((w7.setCell ⟨X, 0, none⟩ (.int .i64 x.kind)).setCell ⟨X, 1, none⟩ (.int .i64 x.src)).setCell ⟨X, 2, none⟩ (.int .i64 x.dst)).setCell ⟨X, 3, none⟩ (.int .i64 x.prio)).setCell ⟨X, 4, none⟩ (.int .u64 x.msg)).setCell ⟨X, 5, none⟩ (.int .i64 x.off)).setCell ⟨X, 6, none⟩ (.int .i64 x.len)).setCell ⟨X, 7, none⟩ (.int .i64 x.total)).setCell ⟨X, 8, none⟩ (.int .i64 x.num)).setCell ⟨X, 9, none⟩ (.slice x.da x.dn x.dc)) = w7.setCells X 0 [.int .i64 x.kind, .int .i64 x.src, .int .i64 x.dst, .int .i64 x.prio, .int .u64 x.msg, .int .i64 x.off, .int .i64 x.len, .int .i64 x.total, .int .i64 x.num, .slice x.da x.dn x.dc] := rfl
  rw [hw]
  clear hw cx0 cx1 cx2 cx3 cx4 cx5 cx6 cx7 cx8 cx9 cz0 cz1 cz2 cz3 cz4 cz5 cz6 cz7 cz8 cz9 lz fz lx fx
  have OF := Lib.hid (OV7.out.sets [.int .i64 x.kind, .int .i64 x.src, .int .i64 x.dst, .int .i64 x.prio, .int .u64 x.msg, .int .i64 x.off, .int .i64 x.len, .int .i64 x.total, .int .i64 x.num, .slice x.da x.dn x.dc] rfl)
  obtain ⟨r1, r2, r3⟩ := R6.out
  have KF : Hid (Kept (Only X) w7 (w7.setCells X 0 [.int .i64 x.kind, .int .i64 x.src, .int .i64 x.dst, .int .i64 x.prio, .int .u64 x.msg, .int .i64 x.off, .int .i64 x.len, .int .i64 x.total, .int .i64 x.num, .slice x.da x.dn x.dc])) := Lib.hid ((Kept.refl (Only X) w7).setsO (X := X) (show X = X from rfl) _)
  have hXn : ¬ FM f { l with V := upd l.V k (.slice (some ⟨g, 0, none⟩) r.length c) } { s with A := upd s.A k r } X := fun hh => by
    rcases r3 X hh with h | h
    · have := HF.out.lt h; have := HX.out; omega
    · have := OV2.out.lt; omega
  have PF := Lib.hid (r1.kept KF.out (fun y hy hh => hXn (by rw [← show y = X from hh]; exact hy)) fun y hy _ => ⟨TFr, by rw [show y = X from hy]; exact OV7.out.ty, by decide⟩)
  have hs2 : w.heap.size ≤ w2.heap.size := Nat.le_trans HB.out.size KA.out.size
  have K07 := ((Kept.of_below (M := FM f l s) HB.out).trans (KA.out.mono fun y _ hy => hy.elim)).trans r2
  have KW := Lib.hid (K07.setsN (X := X) (Nat.le_of_eq HX.out) [.int .i64 x.kind, .int .i64 x.src, .int .i64 x.dst, .int .i64 x.prio, .int .u64 x.msg, .int .i64 x.off, .int .i64 x.len, .int .i64 x.total, .int .i64 x.num, .slice x.da x.dn x.dc])
  clear K07 r1 r2
  generalize w7.setCells X 0 [.int .i64 x.kind, .int .i64 x.src, .int .i64 x.dst, .int .i64 x.prio, .int .u64 x.msg, .int .i64 x.off, .int .i64 x.len, .int .i64 x.total, .int .i64 x.num, .slice x.da x.dn x.dc] = F at *
  obtain ⟨lf, cf, ff⟩ := OF.out.blk
  have cf0 : F.cell? ⟨X, 0, none⟩ = some (.int .i64 x.kind) := cf 0
  have cf1 : F.cell? ⟨X, 1, none⟩ = some (.int .i64 x.src) := cf 1
  have cf2 : F.cell? ⟨X, 2, none⟩ = some (.int .i64 x.dst) := cf 2
  have cf3 : F.cell? ⟨X, 3, none⟩ = some (.int .i64 x.prio) := cf 3
  have cf4 : F.cell? ⟨X, 4, none⟩ = some (.int .u64 x.msg) := cf 4
  have cf5 : F.cell? ⟨X, 5, none⟩ = some (.int .i64 x.off) := cf 5
  have cf6 : F.cell? ⟨X, 6, none⟩ = some (.int .i64 x.len) := cf 6
  have cf7 : F.cell? ⟨X, 7, none⟩ = some (.int .i64 x.total) := cf 7
  have cf8 : F.cell? ⟨X, 8, none⟩ = some (.int .i64 x.num) := cf 8
  have cf9 : F.cell? ⟨X, 9, none⟩ = some (.slice x.da x.dn x.dc) := cf 9
  clear cf
  refine done (.tuple #[x.frv, .bool true]) rfl (by simp [It.frv, results, Try.results13, go_sem, cf0, cf1, cf2, cf3, cf4, cf5, cf6, cf7, cf8, cf9]) ⟨rfl, _, PF.out, KW.out, fun z hz => ?_⟩
  rcases r3 z hz with h | h
  · exact .inl h
  · exact .inr (Nat.le_trans hs2 h)
end
end Go.Proofs.Ytoihhidoafgoaaa
/- The fabric (chapter 15): Drop, Double. -/
namespace Go.Proofs.Ytoihhidoafgoaaa
open Go.RowKit

section
variable {f B0 : Nat} {l : Fl} {s : Fs} {w w' : World}
inductive DropF (s : Fs) (n : Nat) (k : Int) : Int → Fs → Prop
  | no (x : It) (p' : Pp) : DropB (s.P n) k x false p' → DropF s n k 5 { s with P := upd s.P n p' }
  | yes (x : It) (p' : Pp) : DropB (s.P n) k x true p' → DropF s n k 0 { s with P := upd s.P n p', lost := s.lost + 1 }
def DropFP (f B0 : Nat) (l : Fl) (s : Fs) (n : Nat) (k : Int) (w : World) (e : Ending) (w' : World) : Prop := ∃ r s', e = .returned (.int .i64 r) ∧ DropF s n k r s' ∧ FaPost f B0 l s s' w w'
theorem dropf_no (h : Fa f B0 l s w) {n k : Int} (hn : n < 0 ∨ (nP s.H s.S : Int) ≤ n) : Calls Try.prog 18 #[.pointer (some ⟨f, 0, none⟩), .int .i64 n, .int .i64 k] w fun e w' => e = .returned (.int .i64 5) ∧ Below w.heap.size w w' := by
  go_enter Try.func18, Try.ntmps18
  go_wp2_with fail
  refine (at_no h hn).mono ?_
  rintro e w1 ⟨rfl, rfl⟩
  go_wp2_with fail
  refine (drop_ni k w).mono ?_
  rintro e w1 ⟨rfl, hb⟩
  have HB := Lib.hid hb
  clear hb
  unfold noBox
  go_wp2_with fail
  go_ret
  exact ⟨rfl, HB.out.alloc HB.out.size _⟩
theorem dropf_ni (n k : Int) : Calls Try.prog 18 #[.pointer none, .int .i64 n, .int .i64 k] w fun e w' => e = .returned (.int .i64 5) ∧ Below w.heap.size w w' := by
  go_enter Try.func18, Try.ntmps18
  go_wp2_with fail
  refine (at_ni n).mono ?_
  rintro e w1 ⟨rfl, rfl⟩
  go_wp2_with fail
  refine (drop_ni k w).mono ?_
  rintro e w1 ⟨rfl, hb⟩
  have HB := Lib.hid hb
  clear hb
  unfold noBox
  go_wp2_with fail
  go_ret
  exact ⟨rfl, HB.out.alloc HB.out.size _⟩
set_option maxRecDepth 100000 in
set_option maxHeartbeats 4000000 in
theorem dropf_yes (h : Fa f B0 l s w) {n N : Nat} {k : Int} (hn : n < nP s.H s.S) (ho : s.ok N) (hN : N ≤ 1000000) : Calls Try.prog 18 #[.pointer (some ⟨f, 0, none⟩), .int .i64 n, .int .i64 k] w (DropFP f B0 l s n k w) := by
  have HF := Lib.hid h
  have hl := ho.lost
  have HO := Lib.hid ho
  clear h ho
  go_enter Try.func18, Try.ntmps18
  go_wp2_with fail
  refine (at_yes HF.out hn).mono ?_
  rintro e w1 ⟨rfl, rfl⟩
  go_wp2_with fail
  refine (dropB (l.b n) B0 (l.l n) (s.P n) N k w (HF.out.po n hn) (HO.out.p n hn) hN).mono ?_
  rintro e w1 ⟨x, ok, p1, rfl, hp1, hrel⟩
  obtain ⟨l1, hf1, hk1, hk1', hg1⟩ := HF.out.port hn hp1
  have F1 := Lib.hid hf1
  have K1 := Lib.hid hk1
  have G1 := Lib.hid hg1
  have HREL := Lib.hid hrel
  clear hp1 hrel hf1 hk1 hk1' hg1
  unfold boxV
  go_upto_region 3 with fail
  have KA : Hid (Below w1.heap.size w1 (w1.alloc (.cells #[.int .i64 x.kind, .int .i64 x.src, .int .i64 x.dst, .int .i64 x.prio, .int .u64 x.msg, .int .i64 x.off, .int .i64 x.len, .int .i64 x.total, .int .i64 x.num, .slice x.da x.dn x.dc, .int .i64 x.path] TIt))) := Lib.hid ((Below.refl _ w1).alloc (Nat.le_refl _) _)
  have F2 := Lib.hid (F1.out.below KA.out)
  have K2 : Hid (Kept (FM f l s) w (w1.alloc (.cells #[.int .i64 x.kind, .int .i64 x.src, .int .i64 x.dst, .int .i64 x.prio, .int .u64 x.msg, .int .i64 x.off, .int .i64 x.len, .int .i64 x.total, .int .i64 x.num, .slice x.da x.dn x.dc, .int .i64 x.path] TIt))) := Lib.hid (K1.out.trans (Kept.of_below KA.out))
  generalize w1.alloc (.cells #[.int .i64 x.kind, .int .i64 x.src, .int .i64 x.dst, .int .i64 x.prio, .int .u64 x.msg, .int .i64 x.off, .int .i64 x.len, .int .i64 x.total, .int .i64 x.num, .slice x.da x.dn x.dc, .int .i64 x.path] TIt) = w2 at *
  clear KA K1 F1
  cases ok with
  | false =>
    go_wp2_with fail
    go_ret
    exact ⟨5, _, rfl, .no x p1 HREL.out, _, F2.out, K2.out, G1.out⟩
  | true =>
    obtain ⟨l0, c0, c1, c2, c3⟩ := F2.out.cells
    have f0 := (F2.out.ob.blk).2.2
    have hl2 : 0 ≤ s.lost ∧ s.lost ≤ 1000000 := by omega
    have HL := Lib.hid (F2.out.setLost (s.lost + 1))
    clear c0 c1 c2
    go_wp2_with fail
    go_ret
    exact ⟨0, _, rfl, .yes x p1 HREL.out, _, HL.out.1, K2.out.trans2 HL.out.2 (fun z _ hh => .inl hh), G1.out⟩
inductive DoubleF (s : Fs) (n : Nat) (k : Int) : Int → Fs → Prop
  | no : (k < 0 ∨ ((s.P n).waits.length : Int) ≤ k) → DoubleF s n k 5 s
  | yes (j : Nat) (hj : j < (s.P n).waits.length) (y : It) (r : Int) (p' : Pp) : k = j → y.plain = ((s.P n).waits[j]).plain → PutRel (s.P n) y r p' → DoubleF s n k 0 (lostBy { s with P := upd s.P n p' } r)
def DoubleFP (f B0 : Nat) (l : Fl) (s : Fs) (n : Nat) (k : Int) (w : World) (e : Ending) (w' : World) : Prop := ∃ r s', e = .returned (.int .i64 r) ∧ DoubleF s n k r s' ∧ FaPost f B0 l s s' w w'
theorem doublef_no (h : Fa f B0 l s w) {n k : Int} (hn : n < 0 ∨ (nP s.H s.S : Int) ≤ n) : Calls Try.prog 26 #[.pointer (some ⟨f, 0, none⟩), .int .i64 n, .int .i64 k] w fun e w' => e = .returned (.int .i64 5) ∧ Below w.heap.size w w' := by
  go_enter Try.func26, Try.ntmps26
  go_wp2_with fail
  refine (at_no h hn).mono ?_
  rintro e w1 ⟨rfl, rfl⟩
  go_wp2_with fail
  refine (twice_ni k w).mono ?_
  rintro e w1 ⟨rfl, rfl⟩
  go_wp2_with fail
  go_ret
  exact ⟨rfl, Below.refl _ _⟩
set_option maxRecDepth 100000 in
set_option maxHeartbeats 4000000 in
theorem doublef_yes (h : Fa f B0 l s w) {n N : Nat} {k : Int} (hn : n < nP s.H s.S) (ho : s.ok N) (hN : N ≤ 1000000) : Calls Try.prog 26 #[.pointer (some ⟨f, 0, none⟩), .int .i64 n, .int .i64 k] w (DoubleFP f B0 l s n k w) := by
  have HF := Lib.hid h
  have hl := ho.lost
  have HO := Lib.hid ho
  clear h ho
  by_cases hk : k < 0 ∨ ((s.P n).waits.length : Int) ≤ k
  · have HK := Lib.hid hk
    clear hk
    go_enter Try.func26, Try.ntmps26
    go_wp2_with fail
    refine (at_yes HF.out hn).mono ?_
    rintro e w1 ⟨rfl, rfl⟩
    go_wp2_with fail
    refine (twice_no (l.b n) B0 (l.l n) (s.P n) k w (HF.out.po n hn) ((HO.out.p n hn).lens hN) HK.out).mono ?_
    rintro e w1 ⟨rfl, hb⟩
    have HB := Lib.hid hb
    clear hb
    go_wp2_with fail
    go_ret
    exact ⟨5, s, rfl, .no HK.out, FaPost.same HF.out HB.out⟩
  · obtain ⟨j, rfl⟩ : ∃ j : Nat, k = j := ⟨k.toNat, by omega⟩
    have hj : j < (s.P n).waits.length := by omega
    have HJ := Lib.hid hj
    clear hk hj
    go_enter Try.func26, Try.ntmps26
    go_wp2_with fail
    refine (at_yes HF.out hn).mono ?_
    rintro e w1 ⟨rfl, rfl⟩
    go_wp2_with fail
    refine (twice_yes (l.b n) B0 (l.l n) (s.P n) N j w (HF.out.po n hn) (HO.out.p n hn) hN HJ.out).mono ?_
    rintro e w1 ⟨y, r, p1, hy, rfl, hp1, hrel⟩
    obtain ⟨l1, hf1, hk1, hk1', hg1⟩ := HF.out.port hn hp1
    have F1 := Lib.hid hf1
    have K1 := Lib.hid hk1
    have G1 := Lib.hid hg1
    have HREL := Lib.hid hrel
    have HY := Lib.hid hy
    clear hp1 hrel hf1 hk1 hk1' hg1 hy
    go_wp2_with fail
    refine (counts_any F1.out r (by show 0 ≤ s.lost ∧ s.lost ≤ _; omega)).mono ?_
    rintro e w2 ⟨rfl, hf2, hk2⟩
    have P2 := Lib.hid (FaPost.count K1.out G1.out hf2 hk2)
    clear hf2 hk2
    go_wp2_with fail
    go_ret
    exact ⟨0, _, rfl, .yes j HJ.out y r p1 rfl HY.out HREL.out, P2.out⟩
end
end Go.Proofs.Ytoihhidoafgoaaa
/- The fabric (chapter 15): New. -/
namespace Go.Proofs.Ytoihhidoafgoaaa
open Go.RowKit

abbrev NIL : Value := .slice none 0 0
theorem Po.lower {b B0 B : Nat} {l : Pl} {p : Pp} {w : World} (h : Po b B0 l p w) (hB : B ≤ B0) : Po b B l p w :=
  ⟨h.ob, own_baseP h.own hB, h.pc, ⟨h.qu.ob, fun i hi => own_baseP (h.qu.own i hi) hB, h.qu.apart, h.qu.off, Nat.le_trans hB h.qu.base⟩, Nat.le_trans hB h.base, Nat.le_trans hB h.pbase, h.pok, fun x hx => own_baseP (h.data x hx) hB⟩
theorem info_pp : (Try.prog.info? 73).map (fun i => (i.zero, i.size, i.bytes)) = some (some (.pointer none), 1, 8) := by kernel_rfl
/-- a fabric that is being made: it has some ports yet -/
structure Nw (f B0 nb ag H S : Nat) (pv : Value) (b : Nat → Nat) (l : Nat → Pl) (p : Pp) (j : Nat) (w : World) : Prop where
  ob : Ob w f #[.pointer (some ⟨nb, 0, none⟩), pv, .slice (some ⟨ag, 0, none⟩) H H, .int .i64 0] TFa
  net : Ni nb H S w
  prt : w.ownsRow B0 TPp 1 pv j ((List.range j).map (ptrV b))
  arr : w.ownsRow B0 TFl 1 (.slice (some ⟨ag, 0, none⟩) H H) H ((List.range H).map fun _ => NIL)
  po : ∀ i, i < j → Po (b i) B0 (l i) p w
  papart : ∀ i i' x, i < j → i' < j → PM (b i) (l i) x → PM (b i') (l i') x → i = i'
  base : B0 ≤ f
  nbase : B0 ≤ nb
section
variable {f B0 nb ag H S j : Nat} {pv : Value} {b : Nat → Nat} {l : Nat → Pl} {p : Pp} {w w' : World}
theorem Nw.below (h : Nw f B0 nb ag H S pv b l p j w) (hk : Below w.heap.size w w') : Nw f B0 nb ag H S pv b l p j w' :=
  ⟨h.ob.below hk, Ob.below h.net hk, below_own h.prt hk, below_own h.arr hk, fun i hi => (h.po i hi).below hk, h.papart, h.base, h.nbase⟩
/-- one port more -/
theorem Nw.more (h : Nw f B0 nb ag H S pv b l p j w) {b' : Nat} {l' : Pl} {v' : Value} {B1 : Nat} (hp : Po b' B1 l' p w) (hB : B0 ≤ B1) (hlt : ∀ i, i < j → ∀ x, PM (b i) (l i) x → x < B1) (hge : ∀ x, PM b' l' x → B1 ≤ x) (hk : Kept (Lm pv) w w') (ho : w'.ownsRow B0 TPp 1 v' (j + 1) ((List.range j).map (ptrV b) ++ [.pointer (some ⟨b', 0, none⟩)])) :
    Nw f B0 nb ag H S v' (upd b j b') (upd l j l') p (j + 1) (w'.setCell ⟨f, 1, none⟩ v') ∧ Kept (fun x => x = f ∨ Lm pv x) w (w'.setCell ⟨f, 1, none⟩ v') := by
  have hLT : ∀ {x : Nat} {T : TypeId}, Ty w x T → T ≠ TPp → ¬ Lm pv x := fun hx hn hh => hn (hx.one (own_ty h.prt hh))
  have hLu : ∀ g, Lm pv g → g < w.heap.size → ∃ T, Ty w g T ∧ T ≠ TU := fun g hg _ => ⟨_, own_ty h.prt hg, by decide⟩
  have ob1 := h.ob.kept hk (hLT h.ob.ty (by decide))
  have nt1 : Ni nb H S w' := Ob.kept h.net hk (hLT (Ob.ty h.net) (by decide))
  have ar1 := own_kept h.arr hk fun x hx => hLT (own_ty h.arr hx) (by decide)
  have hkf : Kept (Only f) w' (w'.setCell ⟨f, 1, none⟩ v') := (Kept.refl _ _).setO
  have hFT : ∀ {x : Nat} {T : TypeId}, Ty w' x T → T ≠ TFa → ¬ Only f x := fun hx hn hh => by
    have : _ = f := hh
    subst this
    exact hn (hx.one ob1.ty)
  have hFu : ∀ g, Only f g → g < w'.heap.size → ∃ T, Ty w' g T ∧ T ≠ TU := fun g hg _ => ⟨TFa, by rw [show g = f from hg]; exact ob1.ty, by decide⟩
  have pok : ∀ {b0 : Nat} {l0 : Pl}, Po b0 B0 l0 p w → Po b0 B0 l0 p (w'.setCell ⟨f, 1, none⟩ v') := fun {b0 l0} hq => by
    have h1 : Po b0 B0 l0 p w' := hq.kept hk (fun x hx hh => by
      obtain ⟨T, h1, h2⟩ := hq.pty hx
      refine hLT h1 ?_ hh
      rcases h2 with rfl | rfl | rfl | rfl | rfl <;> decide) hLu
    exact h1.kept hkf (fun x hx hh => by
      obtain ⟨T, h1, h2⟩ := h1.pty hx
      refine hFT h1 ?_ hh
      rcases h2 with rfl | rfl | rfl | rfl | rfl <;> decide) hFu
  refine ⟨⟨ob1.set 1 v', Ob.kept nt1 hkf (hFT (Ob.ty nt1) (by decide)), ?_, own_kept ar1 hkf fun x hx => hFT (own_ty ar1 hx) (by decide), fun i hi => ?_, fun i i' x hi hi' hx hx' => ?_, h.base, h.nbase⟩, (hk.mono fun _ _ hh => .inr hh).trans2 hkf fun _ _ hh => .inl hh⟩
  · have e : (List.range (j + 1)).map (ptrV (upd b j b')) = (List.range j).map (ptrV b) ++ [.pointer (some ⟨b', 0, none⟩)] := by
      rw [List.range_succ, List.map_append]
      congr 1
      · refine List.map_congr_left fun i hi => ?_
        have : i ≠ j := by have := List.mem_range.1 hi; omega
        unfold ptrV
        rw [upd_other b b' this]
      · unfold ptrV
        simp only [List.map_cons, List.map_nil]
        rw [upd_same]
    rw [e]
    exact own_kept ho hkf fun x hx => hFT (own_ty ho hx) (by decide)
  · by_cases e : i = j
    · subst e
      rw [upd_same, upd_same]
      exact pok (hp.lower hB)
    · rw [upd_other _ _ e, upd_other _ _ e]
      exact pok (h.po i (by omega))
  · have key : ∀ q, q < j + 1 → PM (upd b j b' q) (upd l j l' q) x → (q < j ∧ PM (b q) (l q) x) ∨ (q = j ∧ B1 ≤ x) := fun q hq hx => by
      by_cases e : q = j
      · subst e
        rw [upd_same, upd_same] at hx
        exact .inr ⟨rfl, hge x hx⟩
      · rw [upd_other _ _ e, upd_other _ _ e] at hx
        exact .inl ⟨by omega, hx⟩
    rcases key i hi hx with ⟨h1, h2⟩ | ⟨rfl, h2⟩
    · rcases key i' hi' hx' with ⟨h3, h4⟩ | ⟨rfl, h4⟩
      · exact h.papart i i' x h1 h3 h2 h4
      · have := hlt i h1 x h2; omega
    · rcases key i' hi' hx' with ⟨h3, h4⟩ | ⟨rfl, h4⟩
      · have := hlt i' h3 x h4; omega
      · rfl
def newFs (H S : Nat) (room credits : Int) (trim : Bool) : Fs := ⟨H, S, fun _ => newP room credits trim, fun _ => [], 0⟩
theorem Nw.fa {pg pc : Nat} (h : Nw f B0 nb ag H S (.slice (some ⟨pg, 0, none⟩) (nP H S) pc) b l p (nP H S) w) (hs : Hs H S) {room credits : Int} {trim : Bool} (hp : p = newP room credits trim) : Fa f B0 ⟨nb, pg, pc, ag, b, l, fun _ => NIL⟩ (newFs H S room credits trim) w := by
  subst hp
  exact ⟨h.ob, h.net, hs, h.prt, h.arr, fun k hk => World.ownsRow_nil _ _ _ _, fun k k' g _ _ hg => (by cases hg), h.po, h.papart, fun k x _ hx => (by cases hx), h.base, h.nbase⟩
end
theorem made_nil (n : Nat) : (madeCells #[NIL] n).toList = (List.range n).map fun _ => NIL := by
  simp [madeCells, Nat.mod_one, List.map_const']
theorem info_fl : (Try.prog.info? 63).map (fun i => (i.zero, i.size, i.bytes)) = some (some NIL, 1, 24) := by kernel_rfl
def NewFa (H S : Nat) (room credits : Int) (trim : Bool) (w : World) (e : Ending) (w' : World) : Prop := ∃ f l, e = .returned (.tuple #[.pointer (some ⟨f, 0, none⟩), .int .i64 0]) ∧ Fa f w.heap.size l (newFs H S room credits trim) w' ∧ Below w.heap.size w w'
set_option maxRecDepth 100000 in
set_option maxHeartbeats 4000000 in
theorem new_fa (H S : Nat) (room credits : Int) (trim : Bool) (w : World) (hs : Hs H S) (hr : 0 ≤ room ∧ room ≤ 1073741824) (hc : 0 ≤ credits ∧ credits ≤ 1073741824) : Calls Try.prog 8 #[.int .i64 H, .int .i64 S, .int .i64 room, .int .i64 credits, .bool trim] w (NewFa H S room credits trim w) := by
  have HR := Lib.hid hr
  have HC := Lib.hid hc
  obtain ⟨hh1, hh2⟩ := hs.h
  have hnp := hs.np
  have HS := Lib.hid hs
  clear hr hc hs
  go_enter Try.func8, Try.ntmps8
  go_wp2_with fail
  refine (tnew_yes H S w HS.out).mono ?_
  rintro e w1 ⟨rfl, hn1, hb1⟩
  have N1 := Lib.hid hn1
  have B1 := Lib.hid hb1
  clear hn1 hb1
  obtain ⟨i0, hi0, hz0, hs0, hb0⟩ := info_parts info_fl
  go_wp2_with (refine wpList_make_row _ rfl (.tmp 27) (.tmp 27) _ rfl TFl i0 NIL (by rfl) hi0 hz0 hs0 rfl .i64 .i64 H rfl rfl (by rw [hb0]; omega) (by omega) ?_)
  have O3 := Ob.new (w1.alloc (.cells (madeCells #[NIL] H) TFl)) #[.pointer (some ⟨w.heap.size, 0, none⟩), NIL, .slice (some ⟨w1.heap.size, 0, none⟩) H H, .int .i64 0] TFa
  rw [World.size_alloc] at O3
  have R3 : (w1.alloc (.cells (madeCells #[NIL] H) TFl)).ownsRow w.heap.size TFl 1 (.slice (some ⟨w1.heap.size, 0, none⟩) H H) H ((List.range H).map fun _ => NIL) :=
    ⟨by simp, .inr ⟨w1.heap.size, H, madeCells #[NIL] H, rfl, B1.out.size, heap_new _ _, Nat.le_refl _, by unfold Go.maxLen; omega, by have := congrArg List.length (made_nil H); simpa using this, by rw [made_nil]; exact List.take_of_length_le (by simp)⟩⟩
  have B3 := Lib.hid ((B1.out.alloc B1.out.size (.cells (madeCells #[NIL] H) TFl)).alloc (by rw [World.size_alloc]; have := B1.out.size; omega) (.cells #[.pointer (some ⟨w.heap.size, 0, none⟩), NIL, .slice (some ⟨w1.heap.size, 0, none⟩) H H, .int .i64 0] TFa))
  have N3 : Hid (Nw (w1.heap.size + 1) w.heap.size w.heap.size w1.heap.size H S NIL (fun _ => 0) (fun _ => ⟨0, 0, NIL, fun _ => NIL⟩) (newP room credits trim) 0 ((w1.alloc (.cells (madeCells #[NIL] H) TFl)).alloc (.cells #[.pointer (some ⟨w.heap.size, 0, none⟩), NIL, .slice (some ⟨w1.heap.size, 0, none⟩) H H, .int .i64 0] TFa))) :=
    Lib.hid ⟨O3, Ob.alloc (Ob.alloc N1.out _) _, World.ownsRow_nil _ _ _ _, own_kept R3 ((Kept.refl (fun _ => False) _).alloc _) (fun _ _ h => h), fun i hi => absurd hi (Nat.not_lt_zero _), fun i i' x hi => absurd hi (Nat.not_lt_zero _), by have := B1.out.size; omega, Nat.le_refl _⟩
  clear O3 R3 hi0 hz0 hs0 hb0
  generalize (w1.alloc (.cells (madeCells #[NIL] H) TFl)).alloc (.cells #[.pointer (some ⟨w.heap.size, 0, none⟩), NIL, .slice (some ⟨w1.heap.size, 0, none⟩) H H, .int .i64 0] TFa) = w3 at *
  obtain ⟨f, hf⟩ : ∃ f, Hid (w1.heap.size + 1 = f) := ⟨_, Lib.hid rfl⟩
  rw [hf.out] at N3 ⊢
  refine (net_ports w.heap.size H S w3 N3.out.net HS.out).mono ?_
  rintro e w4 ⟨rfl, hm⟩
  have N4 : Hid (Nw f w.heap.size w.heap.size w1.heap.size H S NIL (fun _ => 0) (fun _ => ⟨0, 0, NIL, fun _ => NIL⟩) (newP room credits trim) 0 w4) := by obtain ⟨m, rfl⟩ := hm; exact Lib.hid (N3.out.below (below_dn (Below.refl _ _)))
  have B4 : Hid (Below w.heap.size w w4) := by obtain ⟨m, rfl⟩ := hm; exact Lib.hid (below_dn B3.out)
  clear hm N3 B3
  generalize w1.heap.size = ag at *
  go_wp2_with fail
  go_loopw [15, 16, 33] (fun _ _ i wr => ∃ (j : Nat) (pv : Value) (b : Nat → Nat) (l : Nat → Pl), j ≤ nP H S ∧ i = .int .i64 j ∧ Nw f w.heap.size w.heap.size ag H S pv b l (newP room credits trim) j wr ∧ Below w.heap.size w wr) (fun _ _ i _ => nP H S - (intOf i).toNat)
  case atStart => exact ⟨0, _, _, _, by omega, rfl, N4.out, B4.out⟩
  case round =>
    obtain ⟨j, pv, b, l, hj, rfl, hn, hb⟩ := hrel
    have N5 := Lib.hid hn
    have B5 := Lib.hid hb
    clear hn hb
    rename World => wi
    by_cases hlt : j < nP H S
    · go_wp2_with fail
      refine (new_pt room credits trim _ HR.out HC.out).mono ?_
      rintro e w6 ⟨b', l', rfl, hp6, hb6⟩
      have N6 := Lib.hid (N5.out.below hb6)
      have P6 := Lib.hid hp6
      have B6 := Lib.hid (B5.out.trans (hb6.mono B5.out.size))
      have hs6 := hb6.size
      clear hp6 hb6
      obtain ⟨pa, pc, rfl, hpc1, hpc2⟩ := (Rd.of_own N6.out.prt).form
      obtain ⟨l0, cells, f0⟩ := N6.out.ob.blk
      have c1 : w6.cell? ⟨f, 1, none⟩ = some (.slice pa j pc) := cells 1
      clear cells
      have hbw : w.heap.size ≤ w6.heap.size := B6.out.size
      have hbw2 : w.heap.size ≤ (w6.alloc (.cells #[.pointer (some ⟨b', 0, none⟩)] TPp)).heap.size := by rw [World.size_alloc]; omega
      have N7 := Lib.hid (N6.out.below ((Below.refl _ _).alloc (Nat.le_refl _) (.cells #[.pointer (some ⟨b', 0, none⟩)] TPp)))
      have P7 := Lib.hid (P6.out.below ((Below.refl _ _).alloc (Nat.le_refl _) (.cells #[.pointer (some ⟨b', 0, none⟩)] TPp)))
      have R7 := Lib.hid (Rd.one (k := 1) w6 #[.pointer (some ⟨b', 0, none⟩)] TPp rfl)
      have B7 := Lib.hid (B6.out.alloc hbw (.cells #[.pointer (some ⟨b', 0, none⟩)] TPp))
      have hpm : ∀ i, i < j → ∀ x, PM (b i) (l i) x → x < wi.heap.size := fun i hi x hx => by
        obtain ⟨T, ⟨cs, h1⟩, _⟩ := (N5.out.po i hi).pty hx
        exact heap_lt h1
      have HPM := Lib.hid hpm
      clear hpm
      go_wp2_with (at_builtin; refine wpList_appAt rfl (.tmp 49) (.tmp 51) 70 rfl info_pp Try.underlying70 rfl (by decide) N7.out.prt R7.out rfl rfl (by simp [Value.oneCell']) (by omega) hbw2 ?_; intro v' w' ho' hg' hf'; obtain ⟨a', c', rfl, hc3, hc4⟩ := (Rd.of_own ho').form; have hG := Kept.of_grown (M := Lm (.slice pa j pc)) hg' (fun z hz => hz); have hMf : ¬ Lm (.slice pa j pc) f := fun hh => absurd ((own_ty N7.out.prt hh).one N7.out.ob.ty) (by decide); have lf7 := N7.out.ob.lt; have hlf : f < w'.heap.size := Nat.lt_of_lt_of_le lf7 hG.size; have hff : ∀ i, w'.frozen? ⟨f, i, none⟩ = false := fun i => (hG.frozen f i lf7 hMf).trans ((N7.out.ob.blk).2.2 i); have hcf : w'.cell? ⟨f, 1, none⟩ = some (.slice pa j pc) := (hG.cell f 1 lf7 hMf).trans ((N7.out.ob.blk).2.1 1))
      have HM := Lib.hid (N7.out.more P7.out (B1 := wi.heap.size) B5.out.size (fun i hi x hx => HPM.out i hi x hx) (fun x hx => P6.out.ge hx) hG ho')
      have BM := Lib.hid ((B7.out.trans (hG.belowAt hbw2 (fun x hx => (N7.out.prt.lt x hx).1))).setCell (p := ⟨f, 1, none⟩) N4.out.base (.slice a' (j + 1) c'))
      go_roundw
      case rel => exact ⟨j + 1, _, _, _, by omega, by go_num, HM.out.1, BM.out⟩
      case measure => simp [intOf]; omega
    · obtain rfl : j = nP H S := by omega
      go_wp2_with fail
      go_ret2
      obtain ⟨g, cap, hv, _⟩ := own_some N5.out.prt (by omega)
      have N6 := N5.out
      subst hv
      exact ⟨_, _, rfl, N6.fa HS.out rfl, B5.out⟩
theorem newf_no1 (H S room credits : Int) (trim : Bool) (w : World) (h : ¬ ((2 ≤ H ∧ H ≤ 8) ∧ 1 ≤ S ∧ S ≤ 4)) : Calls Try.prog 8 #[.int .i64 H, .int .i64 S, .int .i64 room, .int .i64 credits, .bool trim] w fun e w' => e = .returned (.tuple #[.pointer none, .int .i64 1]) ∧ w = w' := by
  have HN := Lib.hid h
  clear h
  go_enter Try.func8, Try.ntmps8
  go_wp2_with fail
  refine (tnew_no H S w HN.out).mono ?_
  rintro e w1 ⟨rfl, rfl⟩
  go_wp2_with fail
  go_ret2
  exact ⟨rfl, rfl⟩
set_option maxRecDepth 100000 in
set_option maxHeartbeats 4000000 in
theorem newf_no2 (H S : Nat) (room credits : Int) (trim : Bool) (w : World) (hs : Hs H S) (h : ¬ ((0 ≤ room ∧ room ≤ 1073741824) ∧ 0 ≤ credits ∧ credits ≤ 1073741824)) : Calls Try.prog 8 #[.int .i64 H, .int .i64 S, .int .i64 room, .int .i64 credits, .bool trim] w fun e w' => e = .returned (.tuple #[.pointer none, .int .i64 1]) ∧ Below w.heap.size w w' := by
  have HN := Lib.hid h
  obtain ⟨hh1, hh2⟩ := hs.h
  obtain ⟨hnp1, hnp2⟩ := hs.np
  have HS := Lib.hid hs
  clear h hs
  go_enter Try.func8, Try.ntmps8
  go_wp2_with fail
  refine (tnew_yes H S w HS.out).mono ?_
  rintro e w1 ⟨rfl, hn1, hb1⟩
  have N1 := Lib.hid hn1
  have B1 := Lib.hid hb1
  clear hn1 hb1
  obtain ⟨i0, hi0, hz0, hs0, hb0⟩ := info_parts info_fl
  go_wp2_with (refine wpList_make_row _ rfl (.tmp 27) (.tmp 27) _ rfl TFl i0 NIL (by rfl) hi0 hz0 hs0 rfl .i64 .i64 H rfl rfl (by rw [hb0]; omega) (by omega) ?_)
  have B3 := Lib.hid ((B1.out.alloc B1.out.size (.cells (madeCells #[NIL] H) TFl)).alloc (by rw [World.size_alloc]; have := B1.out.size; omega) (.cells #[.pointer (some ⟨w.heap.size, 0, none⟩), NIL, .slice (some ⟨w1.heap.size, 0, none⟩) H H, .int .i64 0] TFa))
  have N3 : Hid (Ni w.heap.size H S ((w1.alloc (.cells (madeCells #[NIL] H) TFl)).alloc (.cells #[.pointer (some ⟨w.heap.size, 0, none⟩), NIL, .slice (some ⟨w1.heap.size, 0, none⟩) H H, .int .i64 0] TFa))) :=
    Lib.hid (Ob.alloc (Ob.alloc N1.out _) _)
  clear hi0 hz0 hs0 hb0
  generalize (w1.alloc (.cells (madeCells #[NIL] H) TFl)).alloc (.cells #[.pointer (some ⟨w.heap.size, 0, none⟩), NIL, .slice (some ⟨w1.heap.size, 0, none⟩) H H, .int .i64 0] TFa) = w3 at *
  refine (net_ports w.heap.size H S w3 N3.out HS.out).mono ?_
  rintro e w4 ⟨rfl, hm⟩
  have B4 : Hid (Below w.heap.size w w4) := by obtain ⟨m, rfl⟩ := hm; exact Lib.hid (below_dn B3.out)
  clear hm N3 B3
  go_wp2_with fail
  go_loopw [15, 16, 33] (fun _ _ i wr => i = .int .i64 0 ∧ wr = w4) (fun _ _ i _ => nP H S - (intOf i).toNat)
  case atStart => exact ⟨rfl, rfl⟩
  case round =>
    obtain ⟨rfl, rfl⟩ := hrel
    go_wp2_with fail
    refine (new_no room credits trim _ HN.out).mono ?_
    rintro e w6 ⟨rfl, rfl⟩
    go_wp2_with fail
    go_ret2
    exact ⟨rfl, B4.out⟩
end Go.Proofs.Ytoihhidoafgoaaa
