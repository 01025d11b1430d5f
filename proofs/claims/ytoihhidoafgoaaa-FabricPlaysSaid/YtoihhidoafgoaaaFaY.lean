/- The fabric (chapter 15): Arrived; a nil fabric. -/
import Derived.Test.YtoihhidoafgoaaaMJ
namespace Go.Proofs.Ytoihhidoafgoaaa
open Go.RowKit

/-- frames in memory of their own -/
structure Wf (B : Nat) (v : Value) (W : List It) (w0 w : World) : Prop where
  ex : ∃ Y, Like Y W ∧ w.ownsRow B TFr 10 v Y.length (Y.flatMap It.fro) ∧ ∀ y ∈ Y, Da B w y
  bel : Below B w0 w
section
variable {f B0 : Nat} {l : Fl} {s : Fs} {w w' : World}
theorem arrived_no (h : Fa f B0 l s w) {k : Int} (hk : k < 0 ∨ (s.H : Int) ≤ k) : Calls Try.prog 29 #[.pointer (some ⟨f, 0, none⟩), .int .i64 k] w fun e w' => e = .returned (.slice none 0 0) ∧ w = w' := by
  go_enter Try.func29, Try.ntmps29
  go_wp2_with fail
  refine (has_no h hk).mono ?_
  rintro e w1 ⟨rfl, rfl⟩
  go_wp2_with fail
  go_ret
  exact ⟨rfl, rfl⟩
set_option maxRecDepth 100000 in
set_option maxHeartbeats 4000000 in
theorem arrived_yes (h : Fa f B0 l s w) {k N : Nat} (hk : k < s.H) (ho : s.ok N) (hN : N ≤ 1000000) : Calls Try.prog 29 #[.pointer (some ⟨f, 0, none⟩), .int .i64 k] w fun e w' => ∃ v, e = .returned v ∧ Wf w.heap.size v (s.A k) w w' := by
  have HF := Lib.hid h
  have HO := Lib.hid ho
  have hh := h.hs.h
  have hlen := ho.a k hk
  clear h ho
  go_enter Try.func29, Try.ntmps29
  go_wp2_with fail
  refine (has_yes HF.out hk).mono ?_
  rintro e w1 ⟨rfl, rfl⟩
  obtain ⟨l0, c0, c1, c2, c3⟩ := HF.out.cells
  obtain ⟨la, ca, fa⟩ := HF.out.acell
  obtain ⟨av, cv, hv, hv1, hv2⟩ := HF.out.row_form hk
  have cak := (ca k hk).trans (congrArg some hv)
  have hrow := HF.out.rows k hk
  rw [hv] at hrow
  have HRW := Lib.hid hrow
  have hgw : ∀ g, (Value.slice av (s.A k).length cv).ownBlock = some g → g < w.heap.size := fun g hg => (hrow.lt g hg).2
  have HGW := Lib.hid hgw
  clear ca hv c0 c1 c3 hrow hgw
  go_wp2_with fail
  go_loopw [4, 6, 19] (fun o _ i wr => ∃ j : Nat, j ≤ (s.A k).length ∧ i = .int .i64 j ∧ Wf w.heap.size o ((s.A k).take j) w wr) (fun _ _ i _ => (s.A k).length - (intOf i).toNat)
  case atStart => exact ⟨0, by omega, rfl, ⟨[], rfl, World.ownsRow_nil _ _ _ _, fun y hy => (by cases hy)⟩, Below.refl _ _⟩
  case round =>
    obtain ⟨j, hj, rfl, ⟨Y, hY, ho, hd⟩, hbel⟩ := hrel
    have hlenY : Y.length ≤ 1000000 := by
      have h1 := hY.len
      rw [List.length_take] at h1
      omega
    obtain ⟨ao, co, rfl, _, _⟩ := (Rd.of_own ho).form
    have HY := Lib.hid hY
    have HO4 := Lib.hid ho
    have HD := Lib.hid hd
    have HB := Lib.hid hbel
    have sw := hbel.size
    clear hY ho hd hbel
    rename World => wi
    by_cases hlt : j < (s.A k).length
    · obtain ⟨g, o, hgo, hg, hc⟩ := (Rd.of_own (below_own HRW.out HB.out)).row rowFr (by decide) j hlt
      cases hgo
      have hxm : (s.A k)[j] ∈ s.A k := List.getElem_mem hlt
      have HS := Lib.hid (show (s.A k).take (j + 1) = (s.A k).take j ++ [(s.A k)[j]] from List.take_succ_eq_append_getElem hlt)
      generalize (s.A k)[j] = x at hc HS hxm
      have RX := Lib.hid (Rd.of_own ((HF.out.below HB.out).data k x hk hxm))
      have hxd : x.dn ≤ 1073741824 := (HO.out.ai k hk x hxm).1
      have c0 := hc 0 _ rfl
      have c1 := hc 1 _ rfl
      have c2 := hc 2 _ rfl
      have c3 := hc 3 _ rfl
      have c4 := hc 4 _ rfl
      have c5 := hc 5 _ rfl
      have c6 := hc 6 _ rfl
      have c7 := hc 7 _ rfl
      have c8 := hc 8 _ rfl
      have c9 := hc 9 _ rfl
      rw [Nat.add_zero] at c0
      clear hc
      go_upto_region 6 with fail
      have KA : Hid (Kept (fun _ => False) wi (wi.alloc (.cells #[.int .i64 x.kind, .int .i64 x.src, .int .i64 x.dst, .int .i64 x.prio, .int .u64 x.msg, .int .i64 x.off, .int .i64 x.len, .int .i64 x.total, .int .i64 x.num, .slice x.da x.dn x.dc] TFr))) := Lib.hid ((Kept.refl _ _).alloc _)
      have BA := Lib.hid (HB.out.alloc sw (.cells #[.int .i64 x.kind, .int .i64 x.src, .int .i64 x.dst, .int .i64 x.prio, .int .u64 x.msg, .int .i64 x.off, .int .i64 x.len, .int .i64 x.total, .int .i64 x.num, .slice x.da x.dn x.dc] TFr))
      have OA := Lib.hid (Ob.new wi #[.int .i64 x.kind, .int .i64 x.src, .int .i64 x.dst, .int .i64 x.prio, .int .u64 x.msg, .int .i64 x.off, .int .i64 x.len, .int .i64 x.total, .int .i64 x.num, .slice x.da x.dn x.dc] TFr)
      obtain ⟨X, HX⟩ : ∃ X, Hid (wi.heap.size = X) := ⟨_, Lib.hid rfl⟩
      rw [HX.out] at OA ⊢
      clear c0 c1 c2 c3 c4 c5 c6 c7 c8 c9
      generalize wi.alloc (.cells #[.int .i64 x.kind, .int .i64 x.src, .int .i64 x.dst, .int .i64 x.prio, .int .u64 x.msg, .int .i64 x.off, .int .i64 x.len, .int .i64 x.total, .int .i64 x.num, .slice x.da x.dn x.dc] TFr) = wa at *
      obtain ⟨lx, cx, fx⟩ := OA.out.blk
      have cx0 : wa.cell? ⟨X, 0, none⟩ = some (.int .i64 x.kind) := cx 0
      have cx1 : wa.cell? ⟨X, 1, none⟩ = some (.int .i64 x.src) := cx 1
      have cx2 : wa.cell? ⟨X, 2, none⟩ = some (.int .i64 x.dst) := cx 2
      have cx3 : wa.cell? ⟨X, 3, none⟩ = some (.int .i64 x.prio) := cx 3
      have cx4 : wa.cell? ⟨X, 4, none⟩ = some (.int .u64 x.msg) := cx 4
      have cx5 : wa.cell? ⟨X, 5, none⟩ = some (.int .i64 x.off) := cx 5
      have cx6 : wa.cell? ⟨X, 6, none⟩ = some (.int .i64 x.len) := cx 6
      have cx7 : wa.cell? ⟨X, 7, none⟩ = some (.int .i64 x.total) := cx 7
      have cx8 : wa.cell? ⟨X, 8, none⟩ = some (.int .i64 x.num) := cx 8
      have cx9 : wa.cell? ⟨X, 9, none⟩ = some (.slice x.da x.dn x.dc) := cx 9
      clear cx
      have hown := wown x x.bs wa (RX.out.kept KA.out (fun _ _ _ _ h => h)) hxd
      unfold It.frv at hown
      go_wp2_with fail
      refine (hown).mono ?_
      rintro e wb ⟨a6, c6, rfl, ho6, hb6⟩
      have KB := Lib.hid (KA.out.trans (Kept.of_below hb6))
      have BB := Lib.hid (BA.out.trans (hb6.mono BA.out.size))
      obtain ⟨y, hy⟩ : ∃ y, x.data a6 c6 = y := ⟨_, rfl⟩
      have HYY := Lib.hid hy
      have D6 : Hid (Da w.heap.size wb y) := Lib.hid (by rw [← hy]; exact own_baseP ho6 BA.out.size)
      rw [hy]
      clear hy ho6 hb6 hown cx0 cx1 cx2 cx3 cx4 cx5 cx6 cx7 cx8 cx9 lx fx
      have KC : Hid (Kept (fun _ => False) wi (wb.alloc (.cells #[.int .i64 y.kind, .int .i64 y.src, .int .i64 y.dst, .int .i64 y.prio, .int .u64 y.msg, .int .i64 y.off, .int .i64 y.len, .int .i64 y.total, .int .i64 y.num, .slice y.da y.dn y.dc] TFr))) := Lib.hid (KB.out.alloc _)
      have sb := BB.out.size
      have HA2 : Hid ((wb.alloc (.cells #[.int .i64 y.kind, .int .i64 y.src, .int .i64 y.dst, .int .i64 y.prio, .int .u64 y.msg, .int .i64 y.off, .int .i64 y.len, .int .i64 y.total, .int .i64 y.num, .slice y.da y.dn y.dc] TFr)).ownsRow w.heap.size TFr 10 (.slice ao Y.length co) Y.length (Y.flatMap It.fro)) := Lib.hid (own_kept HO4.out KC.out fun _ _ h => h)
      have RA2 := Lib.hid (Rd.one (k := 10) wb #[.int .i64 y.kind, .int .i64 y.src, .int .i64 y.dst, .int .i64 y.prio, .int .u64 y.msg, .int .i64 y.off, .int .i64 y.len, .int .i64 y.total, .int .i64 y.num, .slice y.da y.dn y.dc] TFr rfl)
      have sb2 : w.heap.size ≤ (wb.alloc (.cells #[.int .i64 y.kind, .int .i64 y.src, .int .i64 y.dst, .int .i64 y.prio, .int .u64 y.msg, .int .i64 y.off, .int .i64 y.len, .int .i64 y.total, .int .i64 y.num, .slice y.da y.dn y.dc] TFr)).heap.size := by rw [World.size_alloc]; omega
      go_wp2_with (at_builtin; refine wpList_appAt rfl (.tmp 23) (.tmp 26) 63 rfl info_fr Try.underlying63 rfl (by decide) HA2.out RA2.out rfl rfl (by simp [Value.oneCell']) (by omega) sb2 ?_; intro v' w' ho' hg' hf')
      have hG := Kept.of_grown (M := Lm (.slice ao Y.length co)) hg' (fun z hz => hz)
      have hb' : Below w.heap.size (wb.alloc (.cells #[.int .i64 y.kind, .int .i64 y.src, .int .i64 y.dst, .int .i64 y.prio, .int .u64 y.msg, .int .i64 y.off, .int .i64 y.len, .int .i64 y.total, .int .i64 y.num, .slice y.da y.dn y.dc] TFr)) w' := grown_below HA2.out hg' sb2
      have hDT : ∀ z, Da w.heap.size (wb.alloc (.cells #[.int .i64 y.kind, .int .i64 y.src, .int .i64 y.dst, .int .i64 y.prio, .int .u64 y.msg, .int .i64 y.off, .int .i64 y.len, .int .i64 y.total, .int .i64 y.num, .slice y.da y.dn y.dc] TFr)) z → Da w.heap.size w' z := fun z hz => hz.keptT hG fun g hg _ => ⟨TFr, own_ty HA2.out hg, by decide⟩
      have D7 := D6.out.kept (M := fun _ => False) ((Kept.refl _ _).alloc (.cells #[.int .i64 y.kind, .int .i64 y.src, .int .i64 y.dst, .int .i64 y.prio, .int .u64 y.msg, .int .i64 y.off, .int .i64 y.len, .int .i64 y.total, .int .i64 y.num, .slice y.da y.dn y.dc] TFr)) (fun _ _ h => h)
      go_roundw
      case rel =>
        refine ⟨j + 1, by omega, by go_num, ⟨Y ++ [y], ?_, by simpa [It.fro] using ho', fun z hz => ?_⟩, ?_⟩
        · rw [HS.out, ← HYY.out]
          exact HY.out.app x a6 c6
        · rcases List.mem_append.1 hz with hz | hz
          · exact hDT z ((HD.out z hz).kept KC.out (fun _ _ h => h))
          · rw [List.mem_singleton.1 hz]
            exact hDT y D7
        · exact (BB.out.alloc sb _).trans hb'
      case measure => simp [intOf]; omega
    · obtain rfl : j = (s.A k).length := by omega
      go_wp2_with fail
      go_ret
      exact ⟨_, rfl, ⟨Y, by rw [← show (s.A k).take (s.A k).length = s.A k from List.take_length]; exact HY.out, HO4.out, HD.out⟩, HB.out⟩
set_option maxRecDepth 100000 in
set_option maxHeartbeats 4000000 in
theorem send_ni (x : It) (k : Int) : Calls Try.prog 10 #[.pointer none, .int .i64 k, x.frv, .int .i64 x.path] w fun e w' => e = .returned (.tuple #[.int .i64 0, .int .i64 1]) ∧ Below w.heap.size w w' := by
  unfold It.frv
  go_enter Try.func10, Try.ntmps10
  go_upto_region 1 with fail
  have HB := Lib.hid ((Below.refl w.heap.size w).alloc (Nat.le_refl _) (.cells #[.int .i64 x.kind, .int .i64 x.src, .int .i64 x.dst, .int .i64 x.prio, .int .u64 x.msg, .int .i64 x.off, .int .i64 x.len, .int .i64 x.total, .int .i64 x.num, .slice x.da x.dn x.dc] TFr))
  generalize w.alloc (.cells #[.int .i64 x.kind, .int .i64 x.src, .int .i64 x.dst, .int .i64 x.prio, .int .u64 x.msg, .int .i64 x.off, .int .i64 x.len, .int .i64 x.total, .int .i64 x.num, .slice x.da x.dn x.dc] TFr) = w1 at *
  go_wp2_with fail
  refine (has_ni k).mono ?_
  rintro e w2 ⟨rfl, rfl⟩
  go_wp2_with fail
  go_ret2
  exact ⟨rfl, HB.out⟩
end
end Go.Proofs.Ytoihhidoafgoaaa
