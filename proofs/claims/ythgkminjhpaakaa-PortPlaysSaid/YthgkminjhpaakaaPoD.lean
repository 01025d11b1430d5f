/- A port (chapter 13): how many wait; one of them lost. -/
import Derived.Test.YthgkminjhpaakaaPoV
namespace Go.Proofs.Ythgkminjhpaakaa
open Go.RowKit

def Pp.lens (p : Pp) : Prop := (∀ i, i < 8 → (p.L i).length ≤ 1000000) ∧ p.C.length ≤ 1000000
theorem lenTo_wfrom (L : Nat → List It) : lenTo L 8 = (wfrom L 8).length := by
  simp [lenTo, wfrom]
  omega
set_option maxRecDepth 100000 in
set_option maxHeartbeats 4000000 in
theorem len_pt (b B0 : Nat) (l : Pl) (p : Pp) (w : World) (h : Po b B0 l p w) (hl : p.lens) : Calls Try.prog 45 #[.pointer (some ⟨b, 0, none⟩)] w fun e w' => e = .returned (.int .i64 p.waits.length) ∧ ∃ m, w' = w.drewN m := by
  obtain ⟨a, c, hv, _, _⟩ := h.form
  have HQ := Lib.hid h.qu
  have lb := h.ob.lt
  have cb0 : w.cell? ⟨b, 0, none⟩ = some (.pointer (some ⟨l.q, 0, none⟩)) := (h.ob.blk).2.1 0
  have cb1 : w.cell? ⟨b, 1, none⟩ = some (.slice a p.C.length c) := ((h.ob.blk).2.1 1).trans (congrArg some hv)
  have HW := Lib.hid (show (p.waits.length : Int) = (lenTo p.L 8 : Int) + (p.C.length : Int) by unfold Pp.waits; rw [List.length_append, lenTo_wfrom]; push_cast; rfl)
  have hc := hl.2
  have hb : (lenTo p.L 8) ≤ 8000000 := lenTo_le p.L 1000000 hl.1 8 (by decide)
  have HL := Lib.hid hl.1
  clear hv h hl
  go_enter Try.func45, Try.ntmps45
  go_wp2_with fail
  refine wp_region_quiet_lit (by kernel_rfl) (by kernel_rfl) ?_
  try simp only [List.append]
  repeat (first | go_big_quiet_step (first | (go_at_call 54; exact quietS (len_any l.q B0 l.V p.room p.u p.L _ (HQ.out.dn) HL.out)) | (go_at_call 54; exact quietA (len_any l.q B0 l.V p.room p.u p.L _ (HQ.out.dn) HL.out))) | quiet_step (first | (go_at_call 54; exact quietS (len_any l.q B0 l.V p.room p.u p.L _ (HQ.out.dn) HL.out)) | (go_at_call 54; exact quietA (len_any l.q B0 l.V p.room p.u p.L _ (HQ.out.dn) HL.out))))
  refine wpQuiet_nil ?_
  intro W hW
  go_wp2_with fail
  go_ret
  exact ⟨by rw [HW.out]; rfl, hW⟩
theorem drop_no (b B0 : Nat) (l : Pl) (p : Pp) (k : Int) (w : World) (h : Po b B0 l p w) (hl : p.lens) (hk : k < 0 ∨ (p.waits.length : Int) ≤ k) : Calls Try.prog 22 #[.pointer (some ⟨b, 0, none⟩), .int .i64 k] w fun e w' => e = .returned (.tuple #[noBox, .bool false]) ∧ Below w.heap.size w w' := by
  have hk2 : k < 0 ∨ (0 ≤ k ∧ (p.waits.length : Int) ≤ k) := by omega
  have HP := Lib.hid h
  have HL := Lib.hid hl
  clear h hl hk
  rcases hk2 with hk | ⟨hk, hk2⟩
  · go_enter Try.func22, Try.ntmps22
    go_wp2_with fail
    refine done (.tuple #[noBox, .bool false]) rfl (by simp [noBox, results, Try.results22, go_sem]) ⟨rfl, (Below.refl _ _).alloc (Nat.le_refl _) _⟩
  · go_enter Try.func22, Try.ntmps22
    go_upto_region 1 with fail
    have OV := Lib.hid (Ob.new w #[.int .i64 0, .int .i64 0, .int .i64 0, .int .i64 0, .int .u64 0, .int .i64 0, .int .i64 0, .int .i64 0, .int .i64 0, .slice none 0 0, .int .i64 0] TIt)
    have HB := Lib.hid ((Below.refl w.heap.size w).alloc (Nat.le_refl _) (.cells #[.int .i64 0, .int .i64 0, .int .i64 0, .int .i64 0, .int .u64 0, .int .i64 0, .int .i64 0, .int .i64 0, .int .i64 0, .slice none 0 0, .int .i64 0] TIt))
    have P1 := Lib.hid (HP.out.below HB.out)
    generalize w.alloc (.cells #[.int .i64 0, .int .i64 0, .int .i64 0, .int .i64 0, .int .u64 0, .int .i64 0, .int .i64 0, .int .i64 0, .int .i64 0, .slice none 0 0, .int .i64 0] TIt) = w1 at *
    obtain ⟨X, HX⟩ : ∃ X, Hid (w.heap.size = X) := ⟨_, Lib.hid rfl⟩
    rw [HX.out] at OV ⊢
    go_wp2_with fail
    refine (len_pt b B0 l p w1 P1.out HL.out).mono ?_
    rintro e w2 ⟨rfl, hm⟩
    have HB2 : Hid (Below w.heap.size w w2) := by obtain ⟨m, rfl⟩ := hm; exact Lib.hid (below_dn HB.out)
    have OV2 : Hid (Ob w2 X #[.int .i64 0, .int .i64 0, .int .i64 0, .int .i64 0, .int .u64 0, .int .i64 0, .int .i64 0, .int .i64 0, .int .i64 0, .slice none 0 0, .int .i64 0] TIt) := by obtain ⟨m, rfl⟩ := hm; exact Lib.hid OV.out.dn
    clear hm
    obtain ⟨lx, cx, fx⟩ := OV2.out.blk
    have cx0 : w2.cell? ⟨X, 0, none⟩ = some (.int .i64 0) := cx 0
    have cx1 : w2.cell? ⟨X, 1, none⟩ = some (.int .i64 0) := cx 1
    have cx2 : w2.cell? ⟨X, 2, none⟩ = some (.int .i64 0) := cx 2
    have cx3 : w2.cell? ⟨X, 3, none⟩ = some (.int .i64 0) := cx 3
    have cx4 : w2.cell? ⟨X, 4, none⟩ = some (.int .u64 0) := cx 4
    have cx5 : w2.cell? ⟨X, 5, none⟩ = some (.int .i64 0) := cx 5
    have cx6 : w2.cell? ⟨X, 6, none⟩ = some (.int .i64 0) := cx 6
    have cx7 : w2.cell? ⟨X, 7, none⟩ = some (.int .i64 0) := cx 7
    have cx8 : w2.cell? ⟨X, 8, none⟩ = some (.int .i64 0) := cx 8
    have cx9 : w2.cell? ⟨X, 9, none⟩ = some (.slice none 0 0) := cx 9
    have cx10 : w2.cell? ⟨X, 10, none⟩ = some (.int .i64 0) := cx 10
    clear cx
    go_wp2_with fail
    have hw : (((((((((((w2.setCell ⟨X, 0, none⟩ (.int .i64 0)).setCell ⟨X, 1, none⟩ (.int .i64 0)).setCell ⟨X, 2, none⟩ (.int .i64 0)).setCell ⟨X, 3, none⟩ (.int .i64 0)).setCell ⟨X, 4, none⟩ (.int .u64 0)).setCell ⟨X, 5, none⟩ (.int .i64 0)).setCell ⟨X, 6, none⟩ (.int .i64 0)).setCell ⟨X, 7, none⟩ (.int .i64 0)).setCell ⟨X, 8, none⟩ (.int .i64 0)).setCell ⟨X, 9, none⟩ (.slice none 0 0)).setCell ⟨X, 10, none⟩ (.int .i64 0)) = w2.setCells X 0 [.int .i64 0, .int .i64 0, .int .i64 0, .int .i64 0, .int .u64 0, .int .i64 0, .int .i64 0, .int .i64 0, .int .i64 0, .slice none 0 0, .int .i64 0] := rfl
    rw [hw]
    clear hw cx0 cx1 cx2 cx3 cx4 cx5 cx6 cx7 cx8 cx9 cx10 lx fx
    have OF := Lib.hid (OV2.out.sets [.int .i64 0, .int .i64 0, .int .i64 0, .int .i64 0, .int .u64 0, .int .i64 0, .int .i64 0, .int .i64 0, .int .i64 0, .slice none 0 0, .int .i64 0] rfl)
    have HF := Lib.hid (Below.sets HB2.out (X := X) (Nat.le_of_eq HX.out) HB2.out.size [.int .i64 0, .int .i64 0, .int .i64 0, .int .i64 0, .int .u64 0, .int .i64 0, .int .i64 0, .int .i64 0, .int .i64 0, .slice none 0 0, .int .i64 0])
    generalize w2.setCells X 0 [.int .i64 0, .int .i64 0, .int .i64 0, .int .i64 0, .int .u64 0, .int .i64 0, .int .i64 0, .int .i64 0, .int .i64 0, .slice none 0 0, .int .i64 0] = F at *
    obtain ⟨lf, cf, ff⟩ := OF.out.blk
    have cf0 : F.cell? ⟨X, 0, none⟩ = some (.int .i64 0) := cf 0
    have cf1 : F.cell? ⟨X, 1, none⟩ = some (.int .i64 0) := cf 1
    have cf2 : F.cell? ⟨X, 2, none⟩ = some (.int .i64 0) := cf 2
    have cf3 : F.cell? ⟨X, 3, none⟩ = some (.int .i64 0) := cf 3
    have cf4 : F.cell? ⟨X, 4, none⟩ = some (.int .u64 0) := cf 4
    have cf5 : F.cell? ⟨X, 5, none⟩ = some (.int .i64 0) := cf 5
    have cf6 : F.cell? ⟨X, 6, none⟩ = some (.int .i64 0) := cf 6
    have cf7 : F.cell? ⟨X, 7, none⟩ = some (.int .i64 0) := cf 7
    have cf8 : F.cell? ⟨X, 8, none⟩ = some (.int .i64 0) := cf 8
    have cf9 : F.cell? ⟨X, 9, none⟩ = some (.slice none 0 0) := cf 9
    have cf10 : F.cell? ⟨X, 10, none⟩ = some (.int .i64 0) := cf 10
    clear cf
    exact done (.tuple #[noBox, .bool false]) rfl (by simp [noBox, results, Try.results22, go_sem, cf0, cf1, cf2, cf3, cf4, cf5, cf6, cf7, cf8, cf9, cf10]) ⟨rfl, HX.out ▸ HF.out⟩
def DropPost (b B0 : Nat) (l : Pl) (p : Pp) (k : Nat) (w : World) (e : Ending) (w' : World) : Prop :=
  (∃ (i j : Nat) (hj : j < (p.L i).length), i < 8 ∧ k = (wfrom p.L (7 - i)).length + j ∧ e = .returned (.tuple #[boxV (p.L i)[j], .bool true]) ∧ PoPost b B0 l { p with u := p.u - (p.L i)[j].sz, L := upd p.L i ((p.L i).take j ++ (p.L i).drop (j + 1)) } w w') ∨
  (∃ (j : Nat) (hj : j < p.C.length), k = (wfrom p.L 8).length + j ∧ e = .returned (.tuple #[boxV p.C[j], .bool true]) ∧ PoPost b B0 l { p with C := p.C.take j ++ p.C.drop (j + 1) } w w')
set_option maxRecDepth 100000 in
set_option maxHeartbeats 4000000 in
theorem drop_yes (b B0 : Nat) (l : Pl) (p : Pp) (k : Nat) (w : World) (h : Po b B0 l p w) (hl : p.lens) (hk : k < p.waits.length) (hu : ∀ i, i < 8 → ∀ x ∈ p.L i, x.sz ≤ p.u) (hu2 : p.u ≤ 1099511627776) : Calls Try.prog 22 #[.pointer (some ⟨b, 0, none⟩), .int .i64 k] w (DropPost b B0 l p k w) := by
  have HP := Lib.hid h
  have HL := Lib.hid hl
  have HU := Lib.hid hu
  have HK := Lib.hid hk
  have hk1 : k ≤ 9000000 := by
    have := wfrom_len p.L 1000000 hl.1 8 (by decide)
    unfold Pp.waits at hk
    rw [List.length_append] at hk
    have := hl.2
    omega
  clear h hl hu
  have hk0 : ¬ (k : Int) < 0 := by omega
  go_enter Try.func22, Try.ntmps22
  go_upto_region 1 with fail
  have OV := Lib.hid (Ob.new w #[.int .i64 0, .int .i64 0, .int .i64 0, .int .i64 0, .int .u64 0, .int .i64 0, .int .i64 0, .int .i64 0, .int .i64 0, .slice none 0 0, .int .i64 0] TIt)
  have HB := Lib.hid ((Below.refl w.heap.size w).alloc (Nat.le_refl _) (.cells #[.int .i64 0, .int .i64 0, .int .i64 0, .int .i64 0, .int .u64 0, .int .i64 0, .int .i64 0, .int .i64 0, .int .i64 0, .slice none 0 0, .int .i64 0] TIt))
  have P1 := Lib.hid (HP.out.below HB.out)
  generalize w.alloc (.cells #[.int .i64 0, .int .i64 0, .int .i64 0, .int .i64 0, .int .u64 0, .int .i64 0, .int .i64 0, .int .i64 0, .int .i64 0, .slice none 0 0, .int .i64 0] TIt) = w1 at *
  obtain ⟨X, HX⟩ : ∃ X, Hid (w.heap.size = X) := ⟨_, Lib.hid rfl⟩
  rw [HX.out] at OV ⊢
  go_wp2_with fail
  refine (len_pt b B0 l p w1 P1.out HL.out).mono ?_
  rintro e w2 ⟨rfl, hm⟩
  have HB2 : Hid (Below w.heap.size w w2) := by obtain ⟨m, rfl⟩ := hm; exact Lib.hid (below_dn HB.out)
  have OV2 : Hid (Ob w2 X #[.int .i64 0, .int .i64 0, .int .i64 0, .int .i64 0, .int .u64 0, .int .i64 0, .int .i64 0, .int .i64 0, .int .i64 0, .slice none 0 0, .int .i64 0] TIt) := by obtain ⟨m, rfl⟩ := hm; exact Lib.hid OV.out.dn
  clear hm
  go_wp2_with fail
  rw [decide_eq_false (show ¬ p.waits.length ≤ k by omega)]
  go_loopw [1, 5, 6, 7] (fun kk _ pr _ wr => ∃ r : Nat, r ≤ 8 ∧ pr = .int .i64 (7 - r) ∧ (wfrom p.L r).length ≤ k ∧ kk = .int .i64 ((k : Int) - (wfrom p.L r).length) ∧ Below w2.heap.size w2 wr) (fun _ _ pr _ _ => (intOf pr + 1).toNat)
  case atStart => exact ⟨0, by omega, rfl, by simp [wfrom], by simp [wfrom], Below.refl _ _⟩
  case round =>
    obtain ⟨r, hr, rfl, hle, rfl, hb⟩ := hrel
    have B3 := Lib.hid hb
    clear hb
    rename World => wk
    have P3 := Lib.hid (HP.out.below (HB2.out.trans (B3.out.mono HB2.out.size)))
    have OV3 := Lib.hid (OV2.out.below B3.out)
    have cells := (P3.out.ob.blk).2.1
    have lb := P3.out.ob.lt
    have cb0 : wk.cell? ⟨b, 0, none⟩ = some (.pointer (some ⟨l.q, 0, none⟩)) := cells 0
    by_cases h8 : r < 8
    · obtain ⟨q, hq⟩ : ∃ q : Nat, q = 7 - r := ⟨_, rfl⟩
      have hq8 : q < 8 := by omega
      have hqi : (7 : Int) - r = q := by omega
      have hlq := HL.out.1 q hq8
      have HQ := Lib.hid hq
      have HQI := Lib.hid hqi
      rw [hqi]
      clear hq hqi cells
      obtain ⟨j, HJ⟩ : ∃ j : Nat, Hid (k = (wfrom p.L r).length + j) := ⟨k - (wfrom p.L r).length, Lib.hid (by omega)⟩
      have HJI : Hid ((k : Int) - (wfrom p.L r).length = j) := Lib.hid (by have := HJ.out; omega)
      have hj9 : j ≤ 9000000 := by have := HJ.out; omega
      rw [HJI.out]
      go_wp2_with fail
      refine (line_any l.q B0 l.V p.room p.u p.L q wk P3.out.qu hq8 hlq).mono ?_
      rintro e w4 ⟨v, rfl, hov, hb4⟩
      obtain ⟨av, cv, rfl, _, _⟩ := (Rd.of_own hov).form
      have P4 := Lib.hid (P3.out.below hb4)
      have OV4 := Lib.hid (OV3.out.below hb4)
      have B4 := Lib.hid (B3.out.trans (hb4.mono B3.out.size))
      clear hov hb4 lb cb0
      by_cases hlt : j < (p.L q).length
      · have cells := (P4.out.ob.blk).2.1
        have lb := P4.out.ob.lt
        have cb0 : w4.cell? ⟨b, 0, none⟩ = some (.pointer (some ⟨l.q, 0, none⟩)) := cells 0
        clear cells
        have HM := Lib.hid (List.getElem_mem hlt)
        go_wp2_with fail
        refine (remove_yes l.q B0 l.V p.room p.u p.L q j _ P4.out.qu hq8 hlt ⟨HU.out q hq8 _ HM.out, hu2⟩).mono ?_
        rintro e w5 ⟨rfl, V5, hq5, hk5, hf5⟩
        have Q5 := Lib.hid (P4.out.queue (L' := upd p.L q ((p.L q).take j ++ (p.L q).drop (j + 1))) (u' := p.u - (p.L q)[j].sz) hk5 hq5 hf5 (fun z i hi hz => .inl (.inr ⟨i, hi, by
          by_cases hji : i = q
          · subst hji
            rw [upd_same] at hz
            rcases List.mem_append.1 hz with hz | hz
            · exact List.mem_of_mem_take hz
            · exact List.mem_of_mem_drop hz
          · rw [upd_other _ _ hji] at hz
            exact hz⟩)))
        have hqX : ¬ QM l.q l.V X := fun hh => by
          rcases P4.out.qu.ty hh with h3 | h3
          · exact absurd (h3.one OV4.out.ty) (by decide)
          · exact absurd (h3.one OV4.out.ty) (by decide)
        have OV5 := Lib.hid (OV4.out.kept hk5 hqX)
        have HX5 := Lib.hid (show (p.L q)[j] = (p.L q)[j] from rfl)
        obtain ⟨x, hx⟩ : ∃ x, (p.L q)[j] = x := ⟨_, rfl⟩
        have HXX := Lib.hid hx
        rw [hx] at Q5 ⊢
        clear hx HX5 HM hk5 hq5 hf5 lb cb0
        obtain ⟨l5, P5', K5', F5'⟩ := Q5.out
        have P5 := Lib.hid P5'
        have F5 := Lib.hid F5'
        have KK : Hid (Kept (PM b l) w w5) := Lib.hid ((Kept.of_below (HB2.out.trans (B4.out.mono HB2.out.size))).trans K5')
        have S5 : Hid (w.heap.size ≤ w4.heap.size) := Lib.hid (Nat.le_trans HB2.out.size B4.out.size)
        have lX4 := OV4.out.lt
        clear P5' K5' F5'
        obtain ⟨lx, cx, fx⟩ := OV5.out.blk
        have cx0 : w5.cell? ⟨X, 0, none⟩ = some (.int .i64 0) := cx 0
        have cx1 : w5.cell? ⟨X, 1, none⟩ = some (.int .i64 0) := cx 1
        have cx2 : w5.cell? ⟨X, 2, none⟩ = some (.int .i64 0) := cx 2
        have cx3 : w5.cell? ⟨X, 3, none⟩ = some (.int .i64 0) := cx 3
        have cx4 : w5.cell? ⟨X, 4, none⟩ = some (.int .u64 0) := cx 4
        have cx5 : w5.cell? ⟨X, 5, none⟩ = some (.int .i64 0) := cx 5
        have cx6 : w5.cell? ⟨X, 6, none⟩ = some (.int .i64 0) := cx 6
        have cx7 : w5.cell? ⟨X, 7, none⟩ = some (.int .i64 0) := cx 7
        have cx8 : w5.cell? ⟨X, 8, none⟩ = some (.int .i64 0) := cx 8
        have cx9 : w5.cell? ⟨X, 9, none⟩ = some (.slice none 0 0) := cx 9
        have cx10 : w5.cell? ⟨X, 10, none⟩ = some (.int .i64 0) := cx 10
        clear cx
        unfold boxV
        go_wp2_with fail
        have hw : (((((((((((w5.setCell ⟨X, 0, none⟩ (.int .i64 x.kind)).setCell ⟨X, 1, none⟩ (.int .i64 x.src)).setCell ⟨X, 2, none⟩ (.int .i64 x.dst)).setCell ⟨X, 3, none⟩ (.int .i64 x.prio)).setCell ⟨X, 4, none⟩ (.int .u64 x.msg)).setCell ⟨X, 5, none⟩ (.int .i64 x.off)).setCell ⟨X, 6, none⟩ (.int .i64 x.len)).setCell ⟨X, 7, none⟩ (.int .i64 x.total)).setCell ⟨X, 8, none⟩ (.int .i64 x.num)).setCell ⟨X, 9, none⟩ (.slice x.da x.dn x.dc)).setCell ⟨X, 10, none⟩ (.int .i64 x.path)) = w5.setCells X 0 [.int .i64 x.kind, .int .i64 x.src, .int .i64 x.dst, .int .i64 x.prio, .int .u64 x.msg, .int .i64 x.off, .int .i64 x.len, .int .i64 x.total, .int .i64 x.num, .slice x.da x.dn x.dc, .int .i64 x.path] := rfl
        rw [hw]
        clear hw cx0 cx1 cx2 cx3 cx4 cx5 cx6 cx7 cx8 cx9 cx10 lx fx
        have OF := Lib.hid (OV5.out.sets [.int .i64 x.kind, .int .i64 x.src, .int .i64 x.dst, .int .i64 x.prio, .int .u64 x.msg, .int .i64 x.off, .int .i64 x.len, .int .i64 x.total, .int .i64 x.num, .slice x.da x.dn x.dc, .int .i64 x.path] rfl)
        have PF := Lib.hid (P5.out.local ((Kept.refl (Only X) w5).setsO (X := X) (show X = X from rfl) [.int .i64 x.kind, .int .i64 x.src, .int .i64 x.dst, .int .i64 x.prio, .int .u64 x.msg, .int .i64 x.off, .int .i64 x.len, .int .i64 x.total, .int .i64 x.num, .slice x.da x.dn x.dc, .int .i64 x.path]) OV5.out.ty (fun hh => by
          rcases F5.out X (.inr (.inr (.inl hh))) with h | h
          · obtain ⟨T, ⟨cs, hT⟩, _⟩ := HP.out.ty h
            have := heap_lt hT
            have := HX.out
            omega
          · omega))
        have KF := Lib.hid (KK.out.setsN (X := X) (Nat.le_of_eq HX.out) [.int .i64 x.kind, .int .i64 x.src, .int .i64 x.dst, .int .i64 x.prio, .int .u64 x.msg, .int .i64 x.off, .int .i64 x.len, .int .i64 x.total, .int .i64 x.num, .slice x.da x.dn x.dc, .int .i64 x.path])
        generalize w5.setCells X 0 [.int .i64 x.kind, .int .i64 x.src, .int .i64 x.dst, .int .i64 x.prio, .int .u64 x.msg, .int .i64 x.off, .int .i64 x.len, .int .i64 x.total, .int .i64 x.num, .slice x.da x.dn x.dc, .int .i64 x.path] = F at *
        obtain ⟨lf, cf, ff⟩ := OF.out.blk
        have cf0 : F.cell? ⟨X, 0, none⟩ = some (.int .i64 x.kind) := cf 0
        have cf1 : F.cell? ⟨X, 1, none⟩ = some (.int .i64 x.src) := cf 1
        have cf2 : F.cell? ⟨X, 2, none⟩ = some (.int .i64 x.dst) := cf 2
        have cf3 : F.cell? ⟨X, 3, none⟩ = some (.int .i64 x.prio) := cf 3
        have cf4 : F.cell? ⟨X, 4, none⟩ = some (.int .u64 x.msg) := cf 4
        have cf5 : F.cell? ⟨X, 5, none⟩ = some (.int .i64 x.off) := cf 5
        have cf6 : F.cell? ⟨X, 6, none⟩ = some (.int .i64 x.len) := cf 6
        have cf7 : F.cell? ⟨X, 7, none⟩ = some (.int .i64 x.total) := cf 7
        have cf8 : F.cell? ⟨X, 8, none⟩ = some (.int .i64 x.num) := cf 8
        have cf9 : F.cell? ⟨X, 9, none⟩ = some (.slice x.da x.dn x.dc) := cf 9
        have cf10 : F.cell? ⟨X, 10, none⟩ = some (.int .i64 x.path) := cf 10
        clear cf
        refine done (.tuple #[boxV x, .bool true]) rfl (by simp [boxV, results, Try.results22, go_sem, cf0, cf1, cf2, cf3, cf4, cf5, cf6, cf7, cf8, cf9, cf10]) (.inl ⟨q, j, hlt, hq8, ?_, by rw [HXX.out], l5, by rw [HXX.out]; exact PF.out, KF.out, fun z hz => ?_⟩)
        · have h1 := HJ.out
          have h2 : 7 - q = r := by have := HQ.out; omega
          rw [h2]
          exact h1
        · rcases F5.out z hz with h | h
          · exact .inl h
          · exact .inr (Nat.le_trans S5.out h)
      · go_wp2_with fail
        go_roundw
        case rel =>
          have hl2 : (wfrom p.L (r + 1)).length = (wfrom p.L r).length + (p.L q).length := by
            rw [wfrom, List.length_append, HQ.out]
          refine ⟨r + 1, by omega, by have := HQI.out; congr 1; push_cast; omega, by have := HJ.out; omega, by have := HJI.out; congr 1; rw [hl2]; push_cast; omega, B4.out⟩
        case measure => simp [intOf]
    · obtain rfl : r = 8 := by omega
      clear cells
      rw [show (7 : Int) - ((8 : Nat) : Int) = -1 from rfl]
      obtain ⟨j, HJ⟩ : ∃ j : Nat, Hid (k = (wfrom p.L 8).length + j) := ⟨k - (wfrom p.L 8).length, Lib.hid (by omega)⟩
      have HJI : Hid ((k : Int) - (wfrom p.L 8).length = j) := Lib.hid (by have := HJ.out; omega)
      have hj9 : j ≤ 9000000 := by have := HJ.out; omega
      have hjC : j < p.C.length := by
        have h1 := HK.out
        have h2 := HJ.out
        unfold Pp.waits at h1
        rw [List.length_append] at h1
        omega
      rw [HJI.out]
      obtain ⟨a, c, hv, hac, hac2⟩ := P3.out.form
      have hown := P3.out.own
      obtain ⟨g, c', hv', hBg, _, _, hgw, hgc, hgf⟩ := own_some hown (by omega)
      rw [hv] at hv' hown
      cases hv'
      obtain ⟨_, _, _, hxl, cs, hrw, hcl, hct⟩ := own_row hown
      have HV := Lib.hid hv
      have cb1 : wk.cell? ⟨b, 1, none⟩ = some (.slice (some ⟨g, 0, none⟩) p.C.length c) := ((P3.out.ob.blk).2.1 1).trans (congrArg some hv)
      obtain ⟨x, hx⟩ : ∃ x, p.C[j] = x := ⟨_, rfl⟩
      have HXX := Lib.hid hx
      have g0 : ∀ i u, (x.row)[i]? = some u → wk.cell? ⟨g, j * 11 + i, none⟩ = some u := fun i u hi => by
        have hi11 : i < 11 := (List.getElem?_eq_some_iff.1 hi).1
        refine hgc _ _ ?_
        rw [flat_get rowIt p.C j i hi11, List.getElem?_eq_getElem hjC, hx]
        exact hi
      have cg0 := g0 0 _ rfl
      have cg1 := g0 1 _ rfl
      have cg2 := g0 2 _ rfl
      have cg3 := g0 3 _ rfl
      have cg4 := g0 4 _ rfl
      have cg5 := g0 5 _ rfl
      have cg6 := g0 6 _ rfl
      have cg7 := g0 7 _ rfl
      have cg8 := g0 8 _ rfl
      have cg9 := g0 9 _ rfl
      have cg10 := g0 10 _ rfl
      rw [Nat.add_zero] at cg0
      have HRW := Lib.hid hrw
      have HCL := Lib.hid hcl
      have HCT := Lib.hid hct
      have fb := (P3.out.ob.blk).2.2
      clear g0 hgc hrw hcl hct hxl hown hx hv
      go_upto_region 11 with fail
      have OI : Hid (Ob (wk.alloc (.cells #[.int .i64 x.kind, .int .i64 x.src, .int .i64 x.dst, .int .i64 x.prio, .int .u64 x.msg, .int .i64 x.off, .int .i64 x.len, .int .i64 x.total, .int .i64 x.num, .slice x.da x.dn x.dc, .int .i64 x.path] TIt)) wk.heap.size #[.int .i64 x.kind, .int .i64 x.src, .int .i64 x.dst, .int .i64 x.prio, .int .u64 x.msg, .int .i64 x.off, .int .i64 x.len, .int .i64 x.total, .int .i64 x.num, .slice x.da x.dn x.dc, .int .i64 x.path] TIt) := Lib.hid (Ob.new _ _ _)
      have KA : Hid (Kept (fun _ => False) wk (wk.alloc (.cells #[.int .i64 x.kind, .int .i64 x.src, .int .i64 x.dst, .int .i64 x.prio, .int .u64 x.msg, .int .i64 x.off, .int .i64 x.len, .int .i64 x.total, .int .i64 x.num, .slice x.da x.dn x.dc, .int .i64 x.path] TIt))) := Lib.hid ((Kept.refl _ _).alloc _)
      have P5 := Lib.hid (P3.out.keptF KA.out)
      have OV5 := Lib.hid (OV3.out.kept KA.out (fun h => h))
      have R5 := Lib.hid (HRW.out.kept KA.out (fun h => h))
      have lX4 := OV3.out.lt
      clear lb fb cb0 cb1 cg0 cg1 cg2 cg3 cg4 cg5 cg6 cg7 cg8 cg9 cg10 hgf
      obtain ⟨Z, HZ⟩ : ∃ Z, Hid (wk.heap.size = Z) := ⟨_, Lib.hid rfl⟩
      rw [HZ.out] at OI ⊢
      generalize wk.alloc (.cells #[.int .i64 x.kind, .int .i64 x.src, .int .i64 x.dst, .int .i64 x.prio, .int .u64 x.msg, .int .i64 x.off, .int .i64 x.len, .int .i64 x.total, .int .i64 x.num, .slice x.da x.dn x.dc, .int .i64 x.path] TIt) = w5 at *
      have cells := (P5.out.ob.blk).2.1
      have fb := (P5.out.ob.blk).2.2
      have lb := P5.out.ob.lt
      have cb1 : w5.cell? ⟨b, 1, none⟩ = some (.slice (some ⟨g, 0, none⟩) p.C.length c) := (cells 1).trans (congrArg some HV.out)
      clear cells
      go_wp2_with fail
      refine (delete_it g p.C.length c j (j + 1) cs _ R5.out HCL.out (by omega) (by omega) (by omega) (by omega) (by rw [HCT.out]; exact one_itrows _)).mono ?_
      rintro e w6 ⟨rfl, hk6, cs', hr6, hl6, ht6⟩
      have hgM : ∀ y, Only g y → Lm l.v y := fun y hy => by
        have : y = g := hy
        subst this
        show l.v.ownBlock = some y
        rw [HV.out]; rfl
      have hn1 : p.C.length - (j + 1 - j) = p.C.length - 1 := by omega
      rw [hn1] at ht6 ⊢
      have hll : (p.C.take j ++ p.C.drop (j + 1)).length = p.C.length - 1 := by rw [List.length_append, List.length_take, List.length_drop]; omega
      have hfl : cs'.take ((p.C.length - 1) * 11) = (p.C.take j ++ p.C.drop (j + 1)).flatMap It.row := by
        rw [ht6, List.flatMap_append, ← flat_take rowIt, ← flat_drop rowIt, HCT.out]
        congr 1
        rw [← HCT.out, List.take_take, Nat.min_eq_left (by omega)]
      have O6 : w6.ownsRow B0 TIt 11 (.slice (some ⟨g, 0, none⟩) (p.C.length - 1) c) (p.C.take j ++ p.C.drop (j + 1)).length ((p.C.take j ++ p.C.drop (j + 1)).flatMap It.row) := by
        rw [hll]
        exact row_own hBg (by omega) (by omega) hr6 (by rw [hl6]; exact HCL.out) hfl
      have K6 : Hid (Kept (Lm l.v) w5 w6) := Lib.hid (hk6.mono fun y _ hy => hgM y hy)
      have R6 := Lib.hid (P5.out.cred K6.out O6 (.inl (by rw [HV.out]; rfl)) (fun z hz => .inl (by
        rcases List.mem_append.1 hz with hz | hz
        · exact List.mem_of_mem_take hz
        · exact List.mem_of_mem_drop hz)))
      have hgb : ¬ Only g b := fun hh => absurd ((show Ty w5 b TPt from P5.out.ob.ty).one (own_ty P5.out.own (by show l.v.ownBlock = some b; exact hgM b hh))) (by decide)
      have hgX : ¬ Only g X := fun hh => by
        have h1 := ((HP.out.own).lt g (hgM g rfl)).2
        have h2 := HX.out
        have h3 : X = g := hh
        omega
      have hgZ : ¬ Only g Z := fun hh => by
        have h2 := HZ.out
        have h3 : Z = g := hh
        omega
      have hXZ : X ≠ Z := by have h2 := HZ.out; omega
      have hXb : X ≠ b := fun hh => absurd (Ty.one (hh ▸ OV5.out.ty) P5.out.ob.ty) (by decide)
      have hZb : Z ≠ b := fun hh => absurd (Ty.one (hh ▸ OI.out.ty) P5.out.ob.ty) (by decide)
      have lb6 : b < w6.heap.size := Nat.lt_of_lt_of_le lb K6.out.size
      have fb6 : ∀ i, w6.frozen? ⟨b, i, none⟩ = false := fun i => (hk6.frozen b i lb hgb).trans (fb i)
      have cb6 : w6.cell? ⟨b, 1, none⟩ = some (.slice (some ⟨g, 0, none⟩) p.C.length c) := (hk6.cell b 1 lb hgb).trans cb1
      have OV6 := Lib.hid (OV5.out.kept hk6 hgX)
      have OI6 := Lib.hid (OI.out.kept hk6 hgZ)
      clear lb fb cb1 hk6 hr6 hl6 ht6 O6 hfl hll hn1
      go_upto_region 12 with fail
      have OV7 := Lib.hid (OV6.out.other ⟨b, 1, none⟩ (.slice (some ⟨g, 0, none⟩) (p.C.length - 1) c) hXb)
      have OI7 := Lib.hid (OI6.out.other ⟨b, 1, none⟩ (.slice (some ⟨g, 0, none⟩) (p.C.length - 1) c) hZb)
      clear lb6 fb6 cb6
      generalize w6.setCell ⟨b, 1, none⟩ (.slice (some ⟨g, 0, none⟩) (p.C.length - 1) c) = w7 at *
      obtain ⟨lz, cz, fz⟩ := OI7.out.blk
      have cz0 : w7.cell? ⟨Z, 0, none⟩ = some (.int .i64 x.kind) := cz 0
      have cz1 : w7.cell? ⟨Z, 1, none⟩ = some (.int .i64 x.src) := cz 1
      have cz2 : w7.cell? ⟨Z, 2, none⟩ = some (.int .i64 x.dst) := cz 2
      have cz3 : w7.cell? ⟨Z, 3, none⟩ = some (.int .i64 x.prio) := cz 3
      have cz4 : w7.cell? ⟨Z, 4, none⟩ = some (.int .u64 x.msg) := cz 4
      have cz5 : w7.cell? ⟨Z, 5, none⟩ = some (.int .i64 x.off) := cz 5
      have cz6 : w7.cell? ⟨Z, 6, none⟩ = some (.int .i64 x.len) := cz 6
      have cz7 : w7.cell? ⟨Z, 7, none⟩ = some (.int .i64 x.total) := cz 7
      have cz8 : w7.cell? ⟨Z, 8, none⟩ = some (.int .i64 x.num) := cz 8
      have cz9 : w7.cell? ⟨Z, 9, none⟩ = some (.slice x.da x.dn x.dc) := cz 9
      have cz10 : w7.cell? ⟨Z, 10, none⟩ = some (.int .i64 x.path) := cz 10
      clear cz
      obtain ⟨lx, cx, fx⟩ := OV7.out.blk
      have cx0 : w7.cell? ⟨X, 0, none⟩ = some (.int .i64 0) := cx 0
      have cx1 : w7.cell? ⟨X, 1, none⟩ = some (.int .i64 0) := cx 1
      have cx2 : w7.cell? ⟨X, 2, none⟩ = some (.int .i64 0) := cx 2
      have cx3 : w7.cell? ⟨X, 3, none⟩ = some (.int .i64 0) := cx 3
      have cx4 : w7.cell? ⟨X, 4, none⟩ = some (.int .u64 0) := cx 4
      have cx5 : w7.cell? ⟨X, 5, none⟩ = some (.int .i64 0) := cx 5
      have cx6 : w7.cell? ⟨X, 6, none⟩ = some (.int .i64 0) := cx 6
      have cx7 : w7.cell? ⟨X, 7, none⟩ = some (.int .i64 0) := cx 7
      have cx8 : w7.cell? ⟨X, 8, none⟩ = some (.int .i64 0) := cx 8
      have cx9 : w7.cell? ⟨X, 9, none⟩ = some (.slice none 0 0) := cx 9
      have cx10 : w7.cell? ⟨X, 10, none⟩ = some (.int .i64 0) := cx 10
      clear cx
      go_wp2_with fail
      have hw : (((((((((((w7.setCell ⟨X, 0, none⟩ (.int .i64 x.kind)).setCell ⟨X, 1, none⟩ (.int .i64 x.src)).setCell ⟨X, 2, none⟩ (.int .i64 x.dst)).setCell ⟨X, 3, none⟩ (.int .i64 x.prio)).setCell ⟨X, 4, none⟩ (.int .u64 x.msg)).setCell ⟨X, 5, none⟩ (.int .i64 x.off)).setCell ⟨X, 6, none⟩ (.int .i64 x.len)).setCell ⟨X, 7, none⟩ (.int .i64 x.total)).setCell ⟨X, 8, none⟩ (.int .i64 x.num)).setCell ⟨X, 9, none⟩ (.slice x.da x.dn x.dc)).setCell ⟨X, 10, none⟩ (.int .i64 x.path)) = w7.setCells X 0 [.int .i64 x.kind, .int .i64 x.src, .int .i64 x.dst, .int .i64 x.prio, .int .u64 x.msg, .int .i64 x.off, .int .i64 x.len, .int .i64 x.total, .int .i64 x.num, .slice x.da x.dn x.dc, .int .i64 x.path] := rfl
      rw [hw]
      clear hw cx0 cx1 cx2 cx3 cx4 cx5 cx6 cx7 cx8 cx9 cx10 cz0 cz1 cz2 cz3 cz4 cz5 cz6 cz7 cz8 cz9 cz10 lz fz lx fx
      have OF := Lib.hid (OV7.out.sets [.int .i64 x.kind, .int .i64 x.src, .int .i64 x.dst, .int .i64 x.prio, .int .u64 x.msg, .int .i64 x.off, .int .i64 x.len, .int .i64 x.total, .int .i64 x.num, .slice x.da x.dn x.dc, .int .i64 x.path] rfl)
      obtain ⟨r1, r2, r3⟩ := R6.out
      have KF : Hid (Kept (Only X) w7 (w7.setCells X 0 [.int .i64 x.kind, .int .i64 x.src, .int .i64 x.dst, .int .i64 x.prio, .int .u64 x.msg, .int .i64 x.off, .int .i64 x.len, .int .i64 x.total, .int .i64 x.num, .slice x.da x.dn x.dc, .int .i64 x.path])) := Lib.hid ((Kept.refl (Only X) w7).setsO (X := X) (show X = X from rfl) _)
      have PF := Lib.hid (r1.local KF.out OV7.out.ty (fun hh => hgX (show X = g from (Option.some.inj hh).symm)))
      have K07 := ((Kept.of_below (M := PM b l) (HB2.out.trans (B3.out.mono HB2.out.size))).trans (KA.out.mono fun y _ hy => hy.elim)).trans r2
      have hs5 : w.heap.size ≤ w5.heap.size := Nat.le_trans HB2.out.size (Nat.le_trans B3.out.size KA.out.size)
      have KW := Lib.hid (K07.setsN (X := X) (Nat.le_of_eq HX.out) [.int .i64 x.kind, .int .i64 x.src, .int .i64 x.dst, .int .i64 x.prio, .int .u64 x.msg, .int .i64 x.off, .int .i64 x.len, .int .i64 x.total, .int .i64 x.num, .slice x.da x.dn x.dc, .int .i64 x.path])
      clear K07 r1 r2
      generalize w7.setCells X 0 [.int .i64 x.kind, .int .i64 x.src, .int .i64 x.dst, .int .i64 x.prio, .int .u64 x.msg, .int .i64 x.off, .int .i64 x.len, .int .i64 x.total, .int .i64 x.num, .slice x.da x.dn x.dc, .int .i64 x.path] = F at *
      obtain ⟨lf, cf, ff⟩ := OF.out.blk
      have cf0 : F.cell? ⟨X, 0, none⟩ = some (.int .i64 x.kind) := cf 0
      have cf1 : F.cell? ⟨X, 1, none⟩ = some (.int .i64 x.src) := cf 1
      have cf2 : F.cell? ⟨X, 2, none⟩ = some (.int .i64 x.dst) := cf 2
      have cf3 : F.cell? ⟨X, 3, none⟩ = some (.int .i64 x.prio) := cf 3
      have cf4 : F.cell? ⟨X, 4, none⟩ = some (.int .u64 x.msg) := cf 4
      have cf5 : F.cell? ⟨X, 5, none⟩ = some (.int .i64 x.off) := cf 5
      have cf6 : F.cell? ⟨X, 6, none⟩ = some (.int .i64 x.len) := cf 6
      have cf7 : F.cell? ⟨X, 7, none⟩ = some (.int .i64 x.total) := cf 7
      have cf8 : F.cell? ⟨X, 8, none⟩ = some (.int .i64 x.num) := cf 8
      have cf9 : F.cell? ⟨X, 9, none⟩ = some (.slice x.da x.dn x.dc) := cf 9
      have cf10 : F.cell? ⟨X, 10, none⟩ = some (.int .i64 x.path) := cf 10
      clear cf
      refine done (.tuple #[boxV x, .bool true]) rfl (by simp [boxV, results, Try.results22, go_sem, cf0, cf1, cf2, cf3, cf4, cf5, cf6, cf7, cf8, cf9, cf10]) (.inr ⟨j, hjC, HJ.out, by rw [HXX.out], _, PF.out, KW.out, fun z hz => ?_⟩)
      rcases r3 z hz with h | h
      · exact .inl h
      · exact .inr (Nat.le_trans hs5 h)
end Go.Proofs.Ythgkminjhpaakaa
