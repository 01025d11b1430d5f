/- A port (chapter 13): what waits. -/
import Derived.Test.YthgkminjhpaakaaPoP
namespace Go.Proofs.Ythgkminjhpaakaa
open Go.RowKit

/-- the same items, their data elsewhere -/
def It.plain (x : It) : It := { x with da := none, dc := 0 }
def Like (Y W : List It) : Prop := Y.map It.plain = W.map It.plain
theorem Like.len {Y W : List It} (h : Like Y W) : Y.length = W.length := by
  have := congrArg List.length h
  simpa using this
theorem Like.nil : Like [] [] := rfl
theorem Like.app {Y W : List It} (h : Like Y W) (x : It) (a : Option Addr) (c : Nat) : Like (Y ++ [x.data a c]) (W ++ [x]) := by
  unfold Like at *
  rw [List.map_append, List.map_append, h]
  rfl
def wfrom (L : Nat → List It) : Nat → List It
  | 0 => []
  | k + 1 => wfrom L k ++ L (7 - k)
def Pp.waits (p : Pp) : List It := wfrom p.L 8 ++ p.C
theorem wfrom_len (L : Nat → List It) (N : Nat) (h : ∀ i, i < 8 → (L i).length ≤ N) : ∀ k, k ≤ 8 → (wfrom L k).length ≤ k * N
  | 0, _ => by simp [wfrom]
  | k + 1, hk => by
    have h1 := wfrom_len L N h k (by omega)
    have h2 := h (7 - k) (by omega)
    rw [wfrom, List.length_append, Nat.succ_mul]; omega
structure Wr (B : Nat) (v : Value) (W : List It) (w0 w : World) : Prop where
  ex : ∃ Y, Like Y W ∧ w.ownsRow B TIt 11 v Y.length (Y.flatMap It.row) ∧ ∀ y ∈ Y, Da B w y
  bel : Below B w0 w
theorem Wr.below {B : Nat} {v : Value} {W : List It} {w0 w w' : World} (h : Wr B v W w0 w) (hB : B ≤ w.heap.size) (hb : Below w.heap.size w w') : Wr B v W w0 w' := by
  obtain ⟨⟨Y, h1, h2, h3⟩, h4⟩ := h
  exact ⟨⟨Y, h1, own_kept h2 (Kept.of_below (M := fun _ => False) hb) (fun _ _ h => h), fun y hy => (h3 y hy).kept (Kept.of_below (M := fun _ => False) hb) (fun _ _ h => h)⟩, h4.trans (hb.mono hB)⟩
theorem Wr.lt {B : Nat} {v : Value} {W : List It} {w0 w : World} (h : Wr B v W w0 w) {g : Nat} (hg : v.ownBlock = some g) : B ≤ g ∧ g < w.heap.size := by
  obtain ⟨⟨Y, h1, h2, h3⟩, h4⟩ := h
  exact h2.lt g hg
/-- not a block of this row -/
def Nv (v : Value) : Nat → Prop := fun x => v.ownBlock ≠ some x
def WaitPost (W : List It) (w : World) (e : Ending) (w' : World) : Prop := ∃ v, e = .returned v ∧ Wr w.heap.size v W w w'
set_option maxRecDepth 100000 in
set_option maxHeartbeats 4000000 in
theorem wait_pt (b B0 : Nat) (l : Pl) (p : Pp) (w : World) (h : Po b B0 l p w) (hl : ∀ i, i < 8 → (p.L i).length ≤ 1000000) (hl2 : p.C.length ≤ 1000000) (hdn : ∀ x, p.has x → x.dn ≤ 1073741824) : Calls Try.prog 14 #[.pointer (some ⟨b, 0, none⟩)] w (WaitPost p.waits w) := by
  have HP := Lib.hid h
  have HLE := Lib.hid (wfrom_len p.L 1000000 hl)
  have lb := h.ob.lt
  have cb0 : w.cell? ⟨b, 0, none⟩ = some (.pointer (some ⟨l.q, 0, none⟩)) := (h.ob.blk).2.1 0
  obtain ⟨a, c, hv, _, _⟩ := h.form
  have cb1 : w.cell? ⟨b, 1, none⟩ = some (.slice a p.C.length c) := ((h.ob.blk).2.1 1).trans (congrArg some hv)
  have HV := Lib.hid hv
  have sw0 : b < w.heap.size := lb
  clear h hv
  go_enter Try.func14, Try.ntmps14
  go_wp2_with fail
  go_loopw [2, 3, 5] (fun o pr _ wr => ∃ k : Nat, k ≤ 8 ∧ pr = .int .i64 (7 - k) ∧ Wr w.heap.size o (wfrom p.L k) w wr) (fun _ pr _ _ => (intOf pr + 1).toNat)
  case atStart => exact ⟨0, by omega, rfl, ⟨[], Like.nil, World.ownsRow_nil _ _ _ _, fun y hy => (by cases hy)⟩, Below.refl _ _⟩
  case round =>
    obtain ⟨k, hk, rfl, hwr⟩ := hrel
    have HK := Lib.hid hwr
    have swk := hwr.bel.size
    clear hwr
    rename World => wk
    have P1 := Lib.hid (HP.out.below HK.out.bel)
    have cells := (P1.out.ob.blk).2.1
    have lbk := P1.out.ob.lt
    have cbk0 : wk.cell? ⟨b, 0, none⟩ = some (.pointer (some ⟨l.q, 0, none⟩)) := cells 0
    have cbk1 : wk.cell? ⟨b, 1, none⟩ = some (.slice a p.C.length c) := (cells 1).trans (congrArg some HV.out)
    clear cells
    have hle := HLE.out k hk
    by_cases h8 : k < 8
    · obtain ⟨q, hq⟩ : ∃ q : Nat, q = 7 - k := ⟨_, rfl⟩
      have hq8 : q < 8 := by omega
      have hqi : (7 : Int) - k = q := by omega
      have hlq := hl q hq8
      have HQ := Lib.hid hq
      have HQI := Lib.hid hqi
      rw [hqi]
      clear hq hqi
      go_wp2_with fail
      refine (line_any l.q B0 l.V p.room p.u p.L q wk P1.out.qu hq8 hlq).mono ?_
      rintro e w2 ⟨v, rfl, hov, hb2⟩
      obtain ⟨av, cv, rfl, _, _⟩ := (Rd.of_own hov).form
      have HRX := Lib.hid hov
      have hgv : ∀ g, (Value.slice av (p.L q).length cv).ownBlock = some g → g < w2.heap.size := fun g hg => (hov.lt g hg).2
      have HW2 := Lib.hid (HK.out.below swk hb2)
      clear hov hb2 lbk cbk0 cbk1
      go_wp2_with fail
      go_loopw [2, 5, 21] (fun o _ i wr => ∃ j : Nat, j ≤ (p.L q).length ∧ i = .int .i64 j ∧ Wr w.heap.size o (wfrom p.L k ++ (p.L q).take j) w wr ∧ Kept (Nv (.slice av (p.L q).length cv)) w2 wr ∧ ∀ g, o.ownBlock = some g → Nv (.slice av (p.L q).length cv) g) (fun _ _ i _ => (p.L q).length - (intOf i).toNat)
      case atStart => exact ⟨0, by omega, rfl, by simpa using HW2.out, Kept.refl _ _, fun g hg hh => by have h1 := (HK.out.lt hg).2; have h2 := (HRX.out.lt g hh).1; omega⟩
      case round =>
        obtain ⟨j, hj, rfl, hwr, hbX, hoX⟩ := hrel
        have HBX := Lib.hid hbX
        have HOX := Lib.hid hoX
        have sX := hbX.size
        clear hbX hoX
        obtain ⟨⟨Y, hY, ho, hd⟩, hbel⟩ := hwr
        have hlen : Y.length ≤ 10000000 := by
          have h1 := hY.len
          rw [List.length_append, List.length_take] at h1; omega
        obtain ⟨ao, co, rfl, _, _⟩ := (Rd.of_own ho).form
        have HY := Lib.hid hY
        have HO := Lib.hid ho
        have HD := Lib.hid hd
        have HB := Lib.hid hbel
        have sw := hbel.size
        clear hY ho hd hbel
        rename World => wi
        by_cases hlt : j < (p.L q).length
        · obtain ⟨g, o, hgo, hg, hc⟩ := (Rd.of_own (own_kept HRX.out HBX.out fun x hx hn => hn hx)).row rowIt (by decide) j hlt
          cases hgo
          have hxm : p.has ((p.L q)[j]) := .inr ⟨q, hq8, List.getElem_mem hlt⟩
          have HS := Lib.hid (show (p.L q).take (j + 1) = (p.L q).take j ++ [(p.L q)[j]] from List.take_succ_eq_append_getElem hlt)
          generalize (p.L q)[j] = x at hc HS hxm
          have RX := Lib.hid (Rd.of_own (((HP.out.below HB.out).data x hxm)))
          have hxd : x.dn ≤ 1073741824 := hdn x hxm
          have c0 := hc 0 _ rfl
          have c1 := hc 1 _ rfl
          have c2 := hc 2 _ rfl
          have c3 := hc 3 _ rfl
          have c4 := hc 4 _ rfl
          have c5 := hc 5 _ rfl
          have c6 := hc 6 _ rfl
          have c7 := hc 7 _ rfl
          have c8 := hc 8 _ rfl
          have c9 := hc 9 _ rfl
          have c10 := hc 10 _ rfl
          rw [Nat.add_zero] at c0
          clear hc
          go_upto_region 9 with fail
          have KA : Hid (Kept (fun _ => False) wi (wi.alloc (.cells #[.int .i64 x.kind, .int .i64 x.src, .int .i64 x.dst, .int .i64 x.prio, .int .u64 x.msg, .int .i64 x.off, .int .i64 x.len, .int .i64 x.total, .int .i64 x.num, .slice x.da x.dn x.dc, .int .i64 x.path] TIt))) := Lib.hid ((Kept.refl _ _).alloc _)
          have BA := Lib.hid (HB.out.alloc sw (.cells #[.int .i64 x.kind, .int .i64 x.src, .int .i64 x.dst, .int .i64 x.prio, .int .u64 x.msg, .int .i64 x.off, .int .i64 x.len, .int .i64 x.total, .int .i64 x.num, .slice x.da x.dn x.dc, .int .i64 x.path] TIt))
          have OA := Lib.hid (Ob.new wi #[.int .i64 x.kind, .int .i64 x.src, .int .i64 x.dst, .int .i64 x.prio, .int .u64 x.msg, .int .i64 x.off, .int .i64 x.len, .int .i64 x.total, .int .i64 x.num, .slice x.da x.dn x.dc, .int .i64 x.path] TIt)
          obtain ⟨X, HX⟩ : ∃ X, Hid (wi.heap.size = X) := ⟨_, Lib.hid rfl⟩
          rw [HX.out] at OA ⊢
          clear c0 c1 c2 c3 c4 c5 c6 c7 c8 c9 c10
          generalize wi.alloc (.cells #[.int .i64 x.kind, .int .i64 x.src, .int .i64 x.dst, .int .i64 x.prio, .int .u64 x.msg, .int .i64 x.off, .int .i64 x.len, .int .i64 x.total, .int .i64 x.num, .slice x.da x.dn x.dc, .int .i64 x.path] TIt) = wa at *
          obtain ⟨lx, cx, fx⟩ := OA.out.blk
          have cx0 : wa.cell? ⟨X, 0, none⟩ = some (.int .i64 x.kind) := cx 0
          have cx1 : wa.cell? ⟨X, 1, none⟩ = some (.int .i64 x.src) := cx 1
          have cx2 : wa.cell? ⟨X, 2, none⟩ = some (.int .i64 x.dst) := cx 2
          have cx3 : wa.cell? ⟨X, 3, none⟩ = some (.int .i64 x.prio) := cx 3
          have cx4 : wa.cell? ⟨X, 4, none⟩ = some (.int .u64 x.msg) := cx 4
          have cx5 : wa.cell? ⟨X, 5, none⟩ = some (.int .i64 x.off) := cx 5
          have cx6 : wa.cell? ⟨X, 6, none⟩ = some (.int .i64 x.len) := cx 6
          have cx7 : wa.cell? ⟨X, 7, none⟩ = some (.int .i64 x.total) := cx 7
          have cx8 : wa.cell? ⟨X, 8, none⟩ = some (.int .i64 x.num) := cx 8
          have cx9 : wa.cell? ⟨X, 9, none⟩ = some (.slice x.da x.dn x.dc) := cx 9
          have cx10 : wa.cell? ⟨X, 10, none⟩ = some (.int .i64 x.path) := cx 10
          clear cx
          have hown := pown x x.bs wa (RX.out.kept KA.out (fun _ _ _ _ h => h)) hxd
          unfold It.val at hown
          go_wp2_with fail
          refine (hown).mono ?_
          rintro e wb ⟨a6, c6, rfl, ho6, hb6⟩
          have KB := Lib.hid (KA.out.trans (Kept.of_below hb6))
          have BB := Lib.hid (BA.out.trans (hb6.mono BA.out.size))
          obtain ⟨y, hy⟩ : ∃ y, x.data a6 c6 = y := ⟨_, rfl⟩
          have HYY := Lib.hid hy
          have D6 : Hid (Da w.heap.size wb y) := Lib.hid (by rw [← hy]; exact own_baseP ho6 BA.out.size)
          rw [hy]
          clear hy ho6 hb6 hown cx0 cx1 cx2 cx3 cx4 cx5 cx6 cx7 cx8 cx9 cx10 lx fx
          have KC : Hid (Kept (fun _ => False) wi (wb.alloc (.cells #[.int .i64 y.kind, .int .i64 y.src, .int .i64 y.dst, .int .i64 y.prio, .int .u64 y.msg, .int .i64 y.off, .int .i64 y.len, .int .i64 y.total, .int .i64 y.num, .slice y.da y.dn y.dc, .int .i64 y.path] TIt))) := Lib.hid (KB.out.alloc _)
          have HA : Hid (wb.ownsRow w.heap.size TIt 11 (.slice ao Y.length co) Y.length (Y.flatMap It.row)) := Lib.hid (own_kept HO.out KB.out fun _ _ h => h)
          have sb := BB.out.size
          have HA2 : Hid ((wb.alloc (.cells #[.int .i64 y.kind, .int .i64 y.src, .int .i64 y.dst, .int .i64 y.prio, .int .u64 y.msg, .int .i64 y.off, .int .i64 y.len, .int .i64 y.total, .int .i64 y.num, .slice y.da y.dn y.dc, .int .i64 y.path] TIt)).ownsRow w.heap.size TIt 11 (.slice ao Y.length co) Y.length (Y.flatMap It.row)) := Lib.hid (own_kept HO.out KC.out fun _ _ h => h)
          have RA2 := Lib.hid (Rd.one (k := 11) wb #[.int .i64 y.kind, .int .i64 y.src, .int .i64 y.dst, .int .i64 y.prio, .int .u64 y.msg, .int .i64 y.off, .int .i64 y.len, .int .i64 y.total, .int .i64 y.num, .slice y.da y.dn y.dc, .int .i64 y.path] TIt rfl)
          have sb2 : w.heap.size ≤ (wb.alloc (.cells #[.int .i64 y.kind, .int .i64 y.src, .int .i64 y.dst, .int .i64 y.prio, .int .u64 y.msg, .int .i64 y.off, .int .i64 y.len, .int .i64 y.total, .int .i64 y.num, .slice y.da y.dn y.dc, .int .i64 y.path] TIt)).heap.size := by rw [World.size_alloc]; omega
          go_wp2_with (at_builtin; refine wpList_appAt rfl (.tmp 25) (.tmp 28) 40 rfl info_it2 Try.underlying40 rfl (by decide) HA2.out RA2.out rfl rfl (by simp [Value.oneCell']) (by omega) sb2 ?_; intro v' w' ho' hg' hf')
          have hG := Kept.of_grown (M := Lm (.slice ao Y.length co)) hg' (fun z hz => hz)
          have hb' : Below w.heap.size (wb.alloc (.cells #[.int .i64 y.kind, .int .i64 y.src, .int .i64 y.dst, .int .i64 y.prio, .int .u64 y.msg, .int .i64 y.off, .int .i64 y.len, .int .i64 y.total, .int .i64 y.num, .slice y.da y.dn y.dc, .int .i64 y.path] TIt)) w' := grown_below HA2.out hg' sb2
          have hDT : ∀ z, Da w.heap.size (wb.alloc (.cells #[.int .i64 y.kind, .int .i64 y.src, .int .i64 y.dst, .int .i64 y.prio, .int .u64 y.msg, .int .i64 y.off, .int .i64 y.len, .int .i64 y.total, .int .i64 y.num, .slice y.da y.dn y.dc, .int .i64 y.path] TIt)) z → Da w.heap.size w' z := fun z hz => hz.keptT hG fun g hg _ => ⟨TIt, own_ty HA2.out hg, by decide⟩
          have D7 := D6.out.kept (M := fun _ => False) ((Kept.refl _ _).alloc (.cells #[.int .i64 y.kind, .int .i64 y.src, .int .i64 y.dst, .int .i64 y.prio, .int .u64 y.msg, .int .i64 y.off, .int .i64 y.len, .int .i64 y.total, .int .i64 y.num, .slice y.da y.dn y.dc, .int .i64 y.path] TIt)) (fun _ _ h => h)
          go_roundw
          case rel =>
            refine ⟨j + 1, by omega, by go_num, ⟨⟨Y ++ [y], ?_, by simpa [It.row] using ho', fun z hz => ?_⟩, ?_⟩, ?_, fun g hg => ?_⟩
            · rw [HS.out, ← List.append_assoc, ← HYY.out]
              exact HY.out.app x a6 c6
            · rcases List.mem_append.1 hz with hz | hz
              · exact hDT z ((HD.out z hz).kept KC.out (fun _ _ h => h))
              · rw [List.mem_singleton.1 hz]
                exact hDT y D7
            · exact (BB.out.alloc sb _).trans hb'
            · exact (HBX.out.trans (KC.out.mono fun _ _ h => h.elim)).trans (hG.mono fun g _ hg => HOX.out g hg)
            · rcases hf' with h | h
              · rw [h] at hg; exact HOX.out g hg
              · rw [h] at hg
                cases hg
                exact fun hh => absurd (Nat.lt_of_lt_of_le (hgv _ hh) (Nat.le_trans sX KC.out.size)) (Nat.lt_irrefl _)
          case measure => simp [intOf]; omega
        · obtain rfl : j = (p.L q).length := by omega
          go_wp2_with fail
          go_roundw
          case rel =>
            refine ⟨k + 1, by omega, by have := HQI.out; congr 1; push_cast; omega, ?_⟩
            obtain ⟨⟨Y2, h1, h2, h3⟩, h4⟩ := (⟨⟨Y, HY.out, HO.out, HD.out⟩, HB.out⟩ : Wr w.heap.size (.slice ao Y.length co) _ w wi)
            refine ⟨⟨Y2, ?_, h2, h3⟩, h4⟩
            rw [List.take_length, HQ.out] at h1
            exact h1
          case measure => simp [intOf]

    · obtain rfl : k = 8 := by omega
      rw [show (7 : Int) - ((8 : Nat) : Int) = -1 from rfl]
      have HRX := Lib.hid P1.out.own
      rw [HV.out] at HRX
      have hgv : ∀ g, (Value.slice a p.C.length c).ownBlock = some g → g < wk.heap.size := fun g hg => (HRX.out.lt g hg).2
      have hgw : ∀ g, (Value.slice a p.C.length c).ownBlock = some g → g < w.heap.size := fun g hg => (HP.out.own.lt g (by rw [HV.out]; exact hg)).2
      have HGV := Lib.hid hgw
      clear hgw
      go_wp2_with fail
      go_loopw [2, 7, 36] (fun o _ i wr => ∃ j : Nat, j ≤ p.C.length ∧ i = .int .i64 j ∧ Wr w.heap.size o (wfrom p.L 8 ++ p.C.take j) w wr ∧ Kept (Nv (.slice a p.C.length c)) wk wr ∧ ∀ g, o.ownBlock = some g → Nv (.slice a p.C.length c) g) (fun _ _ i _ => p.C.length - (intOf i).toNat)
      case atStart => exact ⟨0, by omega, rfl, by simpa using HK.out, Kept.refl _ _, fun g hg hh => by have h1 := (HK.out.lt hg).1; have h2 := HGV.out g hh; omega⟩
      case round =>
        obtain ⟨j, hj, rfl, hwr, hbX, hoX⟩ := hrel
        have HBX := Lib.hid hbX
        have HOX := Lib.hid hoX
        have sX := hbX.size
        clear hbX hoX
        obtain ⟨⟨Y, hY, ho, hd⟩, hbel⟩ := hwr
        have hlen : Y.length ≤ 10000000 := by
          have h1 := hY.len
          rw [List.length_append, List.length_take] at h1; omega
        obtain ⟨ao, co, rfl, _, _⟩ := (Rd.of_own ho).form
        have HY := Lib.hid hY
        have HO := Lib.hid ho
        have HD := Lib.hid hd
        have HB := Lib.hid hbel
        have sw := hbel.size
        clear hY ho hd hbel
        rename World => wi
        by_cases hlt : j < (p.C).length
        · obtain ⟨g, o, hgo, hg, hc⟩ := (Rd.of_own (own_kept HRX.out HBX.out fun x hx hn => hn hx)).row rowIt (by decide) j hlt
          cases hgo
          have hxm : p.has ((p.C)[j]) := .inl (List.getElem_mem hlt)
          have HS := Lib.hid (show (p.C).take (j + 1) = (p.C).take j ++ [(p.C)[j]] from List.take_succ_eq_append_getElem hlt)
          generalize (p.C)[j] = x at hc HS hxm
          have RX := Lib.hid (Rd.of_own (((HP.out.below HB.out).data x hxm)))
          have hxd : x.dn ≤ 1073741824 := hdn x hxm
          have c0 := hc 0 _ rfl
          have c1 := hc 1 _ rfl
          have c2 := hc 2 _ rfl
          have c3 := hc 3 _ rfl
          have c4 := hc 4 _ rfl
          have c5 := hc 5 _ rfl
          have c6 := hc 6 _ rfl
          have c7 := hc 7 _ rfl
          have c8 := hc 8 _ rfl
          have c9 := hc 9 _ rfl
          have c10 := hc 10 _ rfl
          rw [Nat.add_zero] at c0
          clear hc
          go_upto_region 14 with fail
          have KA : Hid (Kept (fun _ => False) wi (wi.alloc (.cells #[.int .i64 x.kind, .int .i64 x.src, .int .i64 x.dst, .int .i64 x.prio, .int .u64 x.msg, .int .i64 x.off, .int .i64 x.len, .int .i64 x.total, .int .i64 x.num, .slice x.da x.dn x.dc, .int .i64 x.path] TIt))) := Lib.hid ((Kept.refl _ _).alloc _)
          have BA := Lib.hid (HB.out.alloc sw (.cells #[.int .i64 x.kind, .int .i64 x.src, .int .i64 x.dst, .int .i64 x.prio, .int .u64 x.msg, .int .i64 x.off, .int .i64 x.len, .int .i64 x.total, .int .i64 x.num, .slice x.da x.dn x.dc, .int .i64 x.path] TIt))
          have OA := Lib.hid (Ob.new wi #[.int .i64 x.kind, .int .i64 x.src, .int .i64 x.dst, .int .i64 x.prio, .int .u64 x.msg, .int .i64 x.off, .int .i64 x.len, .int .i64 x.total, .int .i64 x.num, .slice x.da x.dn x.dc, .int .i64 x.path] TIt)
          obtain ⟨X, HX⟩ : ∃ X, Hid (wi.heap.size = X) := ⟨_, Lib.hid rfl⟩
          rw [HX.out] at OA ⊢
          clear c0 c1 c2 c3 c4 c5 c6 c7 c8 c9 c10
          generalize wi.alloc (.cells #[.int .i64 x.kind, .int .i64 x.src, .int .i64 x.dst, .int .i64 x.prio, .int .u64 x.msg, .int .i64 x.off, .int .i64 x.len, .int .i64 x.total, .int .i64 x.num, .slice x.da x.dn x.dc, .int .i64 x.path] TIt) = wa at *
          obtain ⟨lx, cx, fx⟩ := OA.out.blk
          have cx0 : wa.cell? ⟨X, 0, none⟩ = some (.int .i64 x.kind) := cx 0
          have cx1 : wa.cell? ⟨X, 1, none⟩ = some (.int .i64 x.src) := cx 1
          have cx2 : wa.cell? ⟨X, 2, none⟩ = some (.int .i64 x.dst) := cx 2
          have cx3 : wa.cell? ⟨X, 3, none⟩ = some (.int .i64 x.prio) := cx 3
          have cx4 : wa.cell? ⟨X, 4, none⟩ = some (.int .u64 x.msg) := cx 4
          have cx5 : wa.cell? ⟨X, 5, none⟩ = some (.int .i64 x.off) := cx 5
          have cx6 : wa.cell? ⟨X, 6, none⟩ = some (.int .i64 x.len) := cx 6
          have cx7 : wa.cell? ⟨X, 7, none⟩ = some (.int .i64 x.total) := cx 7
          have cx8 : wa.cell? ⟨X, 8, none⟩ = some (.int .i64 x.num) := cx 8
          have cx9 : wa.cell? ⟨X, 9, none⟩ = some (.slice x.da x.dn x.dc) := cx 9
          have cx10 : wa.cell? ⟨X, 10, none⟩ = some (.int .i64 x.path) := cx 10
          clear cx
          have hown := pown x x.bs wa (RX.out.kept KA.out (fun _ _ _ _ h => h)) hxd
          unfold It.val at hown
          go_wp2_with fail
          refine (hown).mono ?_
          rintro e wb ⟨a6, c6, rfl, ho6, hb6⟩
          have KB := Lib.hid (KA.out.trans (Kept.of_below hb6))
          have BB := Lib.hid (BA.out.trans (hb6.mono BA.out.size))
          obtain ⟨y, hy⟩ : ∃ y, x.data a6 c6 = y := ⟨_, rfl⟩
          have HYY := Lib.hid hy
          have D6 : Hid (Da w.heap.size wb y) := Lib.hid (by rw [← hy]; exact own_baseP ho6 BA.out.size)
          rw [hy]
          clear hy ho6 hb6 hown cx0 cx1 cx2 cx3 cx4 cx5 cx6 cx7 cx8 cx9 cx10 lx fx
          have KC : Hid (Kept (fun _ => False) wi (wb.alloc (.cells #[.int .i64 y.kind, .int .i64 y.src, .int .i64 y.dst, .int .i64 y.prio, .int .u64 y.msg, .int .i64 y.off, .int .i64 y.len, .int .i64 y.total, .int .i64 y.num, .slice y.da y.dn y.dc, .int .i64 y.path] TIt))) := Lib.hid (KB.out.alloc _)
          have HA : Hid (wb.ownsRow w.heap.size TIt 11 (.slice ao Y.length co) Y.length (Y.flatMap It.row)) := Lib.hid (own_kept HO.out KB.out fun _ _ h => h)
          have sb := BB.out.size
          have HA2 : Hid ((wb.alloc (.cells #[.int .i64 y.kind, .int .i64 y.src, .int .i64 y.dst, .int .i64 y.prio, .int .u64 y.msg, .int .i64 y.off, .int .i64 y.len, .int .i64 y.total, .int .i64 y.num, .slice y.da y.dn y.dc, .int .i64 y.path] TIt)).ownsRow w.heap.size TIt 11 (.slice ao Y.length co) Y.length (Y.flatMap It.row)) := Lib.hid (own_kept HO.out KC.out fun _ _ h => h)
          have RA2 := Lib.hid (Rd.one (k := 11) wb #[.int .i64 y.kind, .int .i64 y.src, .int .i64 y.dst, .int .i64 y.prio, .int .u64 y.msg, .int .i64 y.off, .int .i64 y.len, .int .i64 y.total, .int .i64 y.num, .slice y.da y.dn y.dc, .int .i64 y.path] TIt rfl)
          have sb2 : w.heap.size ≤ (wb.alloc (.cells #[.int .i64 y.kind, .int .i64 y.src, .int .i64 y.dst, .int .i64 y.prio, .int .u64 y.msg, .int .i64 y.off, .int .i64 y.len, .int .i64 y.total, .int .i64 y.num, .slice y.da y.dn y.dc, .int .i64 y.path] TIt)).heap.size := by rw [World.size_alloc]; omega
          go_wp2_with (at_builtin; refine wpList_appAt rfl (.tmp 40) (.tmp 43) 40 rfl info_it2 Try.underlying40 rfl (by decide) HA2.out RA2.out rfl rfl (by simp [Value.oneCell']) (by omega) sb2 ?_; intro v' w' ho' hg' hf')
          have hG := Kept.of_grown (M := Lm (.slice ao Y.length co)) hg' (fun z hz => hz)
          have hb' : Below w.heap.size (wb.alloc (.cells #[.int .i64 y.kind, .int .i64 y.src, .int .i64 y.dst, .int .i64 y.prio, .int .u64 y.msg, .int .i64 y.off, .int .i64 y.len, .int .i64 y.total, .int .i64 y.num, .slice y.da y.dn y.dc, .int .i64 y.path] TIt)) w' := grown_below HA2.out hg' sb2
          have hDT : ∀ z, Da w.heap.size (wb.alloc (.cells #[.int .i64 y.kind, .int .i64 y.src, .int .i64 y.dst, .int .i64 y.prio, .int .u64 y.msg, .int .i64 y.off, .int .i64 y.len, .int .i64 y.total, .int .i64 y.num, .slice y.da y.dn y.dc, .int .i64 y.path] TIt)) z → Da w.heap.size w' z := fun z hz => hz.keptT hG fun g hg _ => ⟨TIt, own_ty HA2.out hg, by decide⟩
          have D7 := D6.out.kept (M := fun _ => False) ((Kept.refl _ _).alloc (.cells #[.int .i64 y.kind, .int .i64 y.src, .int .i64 y.dst, .int .i64 y.prio, .int .u64 y.msg, .int .i64 y.off, .int .i64 y.len, .int .i64 y.total, .int .i64 y.num, .slice y.da y.dn y.dc, .int .i64 y.path] TIt)) (fun _ _ h => h)
          go_roundw
          case rel =>
            refine ⟨j + 1, by omega, by go_num, ⟨⟨Y ++ [y], ?_, by simpa [It.row] using ho', fun z hz => ?_⟩, ?_⟩, ?_, fun g hg => ?_⟩
            · rw [HS.out, ← List.append_assoc, ← HYY.out]
              exact HY.out.app x a6 c6
            · rcases List.mem_append.1 hz with hz | hz
              · exact hDT z ((HD.out z hz).kept KC.out (fun _ _ h => h))
              · rw [List.mem_singleton.1 hz]
                exact hDT y D7
            · exact (BB.out.alloc sb _).trans hb'
            · exact (HBX.out.trans (KC.out.mono fun _ _ h => h.elim)).trans (hG.mono fun g _ hg => HOX.out g hg)
            · rcases hf' with h | h
              · rw [h] at hg; exact HOX.out g hg
              · rw [h] at hg
                cases hg
                exact fun hh => absurd (Nat.lt_of_lt_of_le (hgv _ hh) (Nat.le_trans sX KC.out.size)) (Nat.lt_irrefl _)
          case measure => simp [intOf]; omega
        · obtain rfl : j = (p.C).length := by omega
          go_wp2_with fail
          go_ret
          refine ⟨_, rfl, ⟨⟨Y, ?_, HO.out, HD.out⟩, HB.out⟩⟩
          have h1 := HY.out
          rw [List.take_length] at h1
          exact h1

end Go.Proofs.Ythgkminjhpaakaa
