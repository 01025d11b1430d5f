/- The document's port (chapter 13): Drop. -/
import Derived.Test.YthgkminjhpaakaaPoRk
namespace Go.Proofs.Ythgkminjhpaakaa
open Go.RowKit

theorem own_ge {w : World} {B : Nat} {e : TypeId} {k : Nat} {v : Value} {n : Nat} {xs : List Value} (h : w.ownsRow B e k v n xs) {a : Addr} {n' c : Nat} (hv : v = .slice (some a) n' c) : B ≤ a.block := by
  rcases h.2 with ⟨h1, _⟩ | ⟨g, cap, cur, hg, hb, _⟩
  · rw [hv] at h1; cases h1
  · rw [hv] at hg
    cases hg
    exact hb
def MDropPost (m : Nat) (t : Mp) (k : Nat) (w : World) (e : Ending) (w' : World) : Prop :=
  (∃ (i j : Nat) (hj : j < (t.L i).length), i < 8 ∧ k = (wfrom t.L (7 - i)).length + j ∧ e = .returned (.tuple #[boxV (t.L i)[j], .bool true]) ∧ MoPost m { t with L := upd t.L i ((t.L i).take j ++ (t.L i).drop (j + 1)) } w w') ∨
  (∃ (j : Nat) (hj : j < t.C.length), k = (wfrom t.L 8).length + j ∧ e = .returned (.tuple #[boxV t.C[j], .bool true]) ∧ MoPost m { t with C := t.C.take j ++ t.C.drop (j + 1) } w w') ∨
  (t.waits.length ≤ k ∧ e = .returned (.tuple #[noBox, .bool false]) ∧ Below w.heap.size w w')
theorem mdrop_neg (m : Nat) (k : Int) (w : World) (hk : k < 0) : Calls Try.prog 23 #[.pointer (some ⟨m, 0, none⟩), .int .i64 k] w fun e w' => e = .returned (.tuple #[noBox, .bool false]) ∧ Below w.heap.size w w' := by
  go_enter Try.func23, Try.ntmps23
  go_wp2_with fail
  refine done (.tuple #[noBox, .bool false]) rfl (by simp [noBox, results, Try.results23, go_sem]) ⟨rfl, (Below.refl _ _).alloc (Nat.le_refl _) _⟩
set_option maxRecDepth 100000 in
set_option maxHeartbeats 4000000 in
theorem mdrop (m : Nat) (U : Nat → Value) (uc : Value) (t : Mp) (N : Nat) (k : Nat) (w : World) (h : Mo m U uc t w) (ho : t.ok N) (hN : N ≤ 100000) (hkm : k ≤ 9223372036854775807) : Calls Try.prog 23 #[.pointer (some ⟨m, 0, none⟩), .int .i64 k] w (MDropPost m t k w) := by
  have HM := Lib.hid h
  have HO := Lib.hid ho
  clear h ho
  have hk0 : ¬ (k : Int) < 0 := by omega
  go_enter Try.func23, Try.ntmps23
  go_upto_region 1 with fail
  have OX := Lib.hid (Ob.new w #[.int .i64 0, .int .i64 0, .int .i64 0, .int .i64 0, .int .u64 0, .int .i64 0, .int .i64 0, .int .i64 0, .int .i64 0, .slice none 0 0, .int .i64 0] TX)
  have HB := Lib.hid ((Below.refl w.heap.size w).alloc (Nat.le_refl _) (.cells #[.int .i64 0, .int .i64 0, .int .i64 0, .int .i64 0, .int .u64 0, .int .i64 0, .int .i64 0, .int .i64 0, .int .i64 0, .slice none 0 0, .int .i64 0] TX))
  have M1 := Lib.hid (HM.out.below HB.out)
  generalize w.alloc (.cells #[.int .i64 0, .int .i64 0, .int .i64 0, .int .i64 0, .int .u64 0, .int .i64 0, .int .i64 0, .int .i64 0, .int .i64 0, .slice none 0 0, .int .i64 0] TX) = w1 at *
  obtain ⟨X, HX⟩ : ∃ X, Hid (w.heap.size = X) := ⟨_, Lib.hid rfl⟩
  rw [HX.out] at OX ⊢
  have hXm : X ≠ m := fun hh => absurd (Ty.one (by rw [hh] at OX; exact OX.out.ty) M1.out.ob.ty) (by decide)
  have HNL := Lib.hid (fun (i : Nat) (hi : i < 8) (a : Addr) (n c : Nat) (hv : U i = .slice (some a) n c) => show a.block ≠ X from by
    obtain ⟨cs, h2⟩ := (HM.out.lines i hi).ty a n c hv
    have := heap_lt h2
    have := HX.out
    omega)
  have HNC := Lib.hid (fun (a : Addr) (n c' : Nat) (hv : uc = .slice (some a) n c') => show a.block ≠ X from by
    obtain ⟨cs, h4⟩ := HM.out.cr.ty _ _ _ hv
    have := heap_lt h4
    have := HX.out
    omega)
  go_wp2_with fail
  try rw [decide_eq_false hk0]
  go_loopw [1, 5, 6, 7] (fun kk _ pr _ wr => ∃ r : Nat, r ≤ 8 ∧ pr = .int .i64 (7 - r) ∧ Hid ((wfrom t.L r).length ≤ k) ∧ kk = .int .i64 ((k : Int) - (wfrom t.L r).length) ∧ Mo m U uc t wr ∧ Ob wr X #[.int .i64 0, .int .i64 0, .int .i64 0, .int .i64 0, .int .u64 0, .int .i64 0, .int .i64 0, .int .i64 0, .int .i64 0, .slice none 0 0, .int .i64 0] TX ∧ Below w.heap.size w wr) (fun _ _ pr _ _ => (intOf pr + 1).toNat)
  case atStart => exact ⟨0, by omega, rfl, Lib.hid (by simp [wfrom]), by simp [wfrom], M1.out, OX.out, HB.out⟩
  case round =>
    obtain ⟨r, hr, rfl, HE, rfl, hm4, ho4, hb4⟩ := hrel
    have M4 := Lib.hid hm4
    have OX4 := Lib.hid ho4
    have B4 := Lib.hid hb4
    clear hm4 ho4 hb4
    rename World => wk
    have lm := M4.out.ob.lt
    have fm := (M4.out.ob.blk).2.2
    by_cases h8 : r < 8
    · obtain ⟨q, hq⟩ : ∃ q : Nat, q = 7 - r := ⟨_, rfl⟩
      have hq8 : q < 8 := by omega
      have hqi : (7 : Int) - r = q := by omega
      have hlq := HO.out.len q hq8
      have HQ := Lib.hid hq
      have HQI := Lib.hid hqi
      rw [hqi]
      clear hq hqi
      obtain ⟨j, HJ⟩ : ∃ j : Nat, Hid (k = (wfrom t.L r).length + j) := ⟨k - (wfrom t.L r).length, Lib.hid (by have := HE.out; omega)⟩
      have HJI : Hid ((k : Int) - (wfrom t.L r).length = j) := Lib.hid (by have := HJ.out; omega)
      have hj9 : j ≤ 9223372036854775807 := by have := HJ.out; omega
      rw [HJI.out]
      obtain ⟨a, c, hv, hlc, hcm⟩ := (M4.out.lines q hq8).form
      have cl : wk.cell? ⟨m, 3 + q, none⟩ = some (.slice a (t.L q).length c) := by rw [M4.out.line hq8, hv]
      have HV := Lib.hid hv
      clear hv
      by_cases hlt : j < (t.L q).length
      · have hrd := M4.out.lines q hq8
        rw [HV.out] at hrd
        obtain ⟨g, o, hgo, hg, hc⟩ := hrd.rd.row rowIt (by decide) j hlt
        cases hgo
        obtain ⟨x, hx⟩ : ∃ x, (t.L q)[j] = x := ⟨_, rfl⟩
        have HXX := Lib.hid hx
        have hc2 : ∀ i u, (x.row)[i]? = some u → wk.cell? ⟨g, o + j * 11 + i, none⟩ = some u := fun i u hi => hc i u (by
          show (It.row ((t.L q)[j]))[i]? = some u
          rw [hx]; exact hi)
        have c0 : wk.cell? ⟨g, o + j * 11, none⟩ = some (.int .i64 x.kind) := hc2 0 _ rfl
        have c1 : wk.cell? ⟨g, o + j * 11 + 1, none⟩ = some (.int .i64 x.src) := hc2 1 _ rfl
        have c2 : wk.cell? ⟨g, o + j * 11 + 2, none⟩ = some (.int .i64 x.dst) := hc2 2 _ rfl
        have c3 : wk.cell? ⟨g, o + j * 11 + 3, none⟩ = some (.int .i64 x.prio) := hc2 3 _ rfl
        have c4 : wk.cell? ⟨g, o + j * 11 + 4, none⟩ = some (.int .u64 x.msg) := hc2 4 _ rfl
        have c5 : wk.cell? ⟨g, o + j * 11 + 5, none⟩ = some (.int .i64 x.off) := hc2 5 _ rfl
        have c6 : wk.cell? ⟨g, o + j * 11 + 6, none⟩ = some (.int .i64 x.len) := hc2 6 _ rfl
        have c7 : wk.cell? ⟨g, o + j * 11 + 7, none⟩ = some (.int .i64 x.total) := hc2 7 _ rfl
        have c8 : wk.cell? ⟨g, o + j * 11 + 8, none⟩ = some (.int .i64 x.num) := hc2 8 _ rfl
        have c9 : wk.cell? ⟨g, o + j * 11 + 9, none⟩ = some (.slice x.da x.dn x.dc) := hc2 9 _ rfl
        have c10 : wk.cell? ⟨g, o + j * 11 + 10, none⟩ = some (.int .i64 x.path) := hc2 10 _ rfl
        clear hc hc2 hrd hx
        go_upto_region 8 with fail
        have OZ := Lib.hid (Ob.new wk #[.int .i64 x.kind, .int .i64 x.src, .int .i64 x.dst, .int .i64 x.prio, .int .u64 x.msg, .int .i64 x.off, .int .i64 x.len, .int .i64 x.total, .int .i64 x.num, .slice x.da x.dn x.dc, .int .i64 x.path] TX)
        have KA : Hid (Kept (fun _ => False) wk (wk.alloc (.cells #[.int .i64 x.kind, .int .i64 x.src, .int .i64 x.dst, .int .i64 x.prio, .int .u64 x.msg, .int .i64 x.off, .int .i64 x.len, .int .i64 x.total, .int .i64 x.num, .slice x.da x.dn x.dc, .int .i64 x.path] TX))) := Lib.hid ((Kept.refl _ _).alloc _)
        have M5a := Lib.hid (M4.out.keptF KA.out)
        have OX5a := Lib.hid (OX4.out.kept KA.out (fun h => h))
        have lX3 := OX4.out.lt
        obtain ⟨Z, HZ⟩ : ∃ Z, Hid (wk.heap.size = Z) := ⟨_, Lib.hid rfl⟩
        rw [HZ.out] at OZ ⊢
        have hXZ : X ≠ Z := by have := HZ.out; omega
        have hmZ : m ≠ Z := by have := HZ.out; omega
        clear lm fm cl c0 c1 c2 c3 c4 c5 c6 c7 c8 c9 c10
        generalize wk.alloc (.cells #[.int .i64 x.kind, .int .i64 x.src, .int .i64 x.dst, .int .i64 x.prio, .int .u64 x.msg, .int .i64 x.off, .int .i64 x.len, .int .i64 x.total, .int .i64 x.num, .slice x.da x.dn x.dc, .int .i64 x.path] TX) = w4 at *
        have lm := M5a.out.ob.lt
        have fm := (M5a.out.ob.blk).2.2
        have cl : w4.cell? ⟨m, 3 + q, none⟩ = some (.slice (some ⟨g, o, none⟩) (t.L q).length c) := by rw [M5a.out.line hq8, HV.out]
        have hmw := mwithout (some ⟨g, o, none⟩) c (t.L q) j w4.drew (by
          have h1 := (M5a.out.lines q hq8).kept (Kept.drew (fun _ => False) w4) (fun _ hh => hh.elim)
          rw [HV.out] at h1
          exact h1) hlt (by omega) hlc
        obtain ⟨L', HLP⟩ : ∃ L', Hid ((t.L q).take j ++ (t.L q).drop (j + 1) = L') := ⟨_, Lib.hid rfl⟩
        rw [HLP.out] at hmw
        have nm : ¬ Since w4.heap.size m := not_since lm
        have HXW : Hid (X < w4.heap.size) := Lib.hid OX5a.out.lt
        refine wp_heads (M := (Since w4.heap.size)) 13 (by kernel_rfl) (by kernel_rfl) ?_
        refine hd_quiet [true, true, true, true, true, true, true, true, true, false, true, true, false, false] (by kernel_rfl) ?_
        simp only [pickAt]
        repeat (go_big_quiet_step (fail))
        refine wpQuiet_nil ?_
        refine hd_act 9 rfl (by kernel_rfl) ?_
        refine run_want rfl ?_
        intro A hA
        go_simp
        refine hmw.mono ?_
        rintro e w6 ⟨v6, rfl, ho6, hb6⟩
        clear hmw
        obtain ⟨a6, c6, rfl, _, _⟩ := (Rd.of_own ho6).form
        have hk6 : Kept (Since w4.heap.size) w4.drew w6 := Kept.of_below hb6
        have K6a := Lib.hid ((Kept.drew (Since w4.heap.size) w4).trans hk6)
        have hlb : m < w6.heap.size := Nat.lt_of_lt_of_le lm K6a.out.size
        have hfb : ∀ i, w6.frozen? ⟨m, i, none⟩ = false := fun i => (K6a.out.frozen m i lm nm).trans (fm i)
        have hcb : w6.cell? ⟨m, 3 + q, none⟩ = some (.slice (some ⟨g, o, none⟩) (t.L q).length c) := (K6a.out.cell m (3 + q) lm nm).trans cl
        have hge := Lib.hid (fun (a : Addr) (n c' : Nat) hv => own_ge ho6 (a := a) (n' := n) (c := c') hv)
        have S6 := Lib.hid (M5a.out.setLine hq8 K6a.out ho6)
        have OX6 := Lib.hid ((OX5a.out.drew).kept (M := Since w4.heap.size) hk6 (not_since HXW.out))
        have OZ6 := Lib.hid ((OZ.out.drew).kept (M := Since w4.heap.size) hk6 (not_since OZ.out.lt))
        refine hA _ _ (hk6) ?_
        try simp only [Act.put, List.setIfInBounds_toArray, List.set_cons_zero, List.set_cons_succ]
        clear A hA
        clear hk6 ho6 hb6
        refine hd_quiet [false, false, false, false, false, false, false, false, false, false, false, false, true, false] (by kernel_rfl) ?_
        simp only [pickAt]
        repeat (go_big_quiet_step (fail))
        refine wpQuiet_nil ?_
        refine hd_tail rfl (by kernel_rfl) ?_
        simp only [List.drop_succ_cons, List.drop_zero]
        go_wp2
        refine NoPanic.normal ?_
        obtain ⟨s1, s2⟩ := S6.out
        have M5 := Lib.hid s1
        have K6 := Lib.hid ((((Kept.of_below (M := Only m) B4.out).trans (KA.out.mono fun _ _ h => h.elim)).trans s2))
        have OX5 := Lib.hid ((OX6.out.other ⟨m, 3 + q, none⟩ (.slice a6 L'.length c6) hXm))
        have OZ5 := Lib.hid ((OZ6.out.other ⟨m, 3 + q, none⟩ (.slice a6 L'.length c6) (fun hh => hmZ hh.symm)))
        have HNL5 := Lib.hid (fun (i : Nat) (hi : i < 8) (a : Addr) (n c' : Nat) (hv : upd U q (.slice a6 L'.length c6) i = .slice (some a) n c') => show a.block ≠ X from by
          by_cases hiq : i = q
          · subst hiq
            rw [upd_same] at hv
            have h1 : w4.heap.size ≤ a.block := hge.out a n c' hv
            have := HXW.out
            omega
          · rw [upd_other _ _ hiq] at hv
            exact HNL.out i hi a n c' hv)
        replace HNL := HNL5
        clear lm fm cl hlb hfb hcb s1 s2
        generalize w6.setCell ⟨m, 3 + q, none⟩ (.slice a6 L'.length c6) = w5 at *
        have HKJ : Hid (k = (wfrom t.L (7 - q)).length + j) := Lib.hid (by
          have h2 : 7 - q = r := by have := HQ.out; omega
          rw [h2]
          exact HJ.out)
        obtain ⟨lz, cz, fz⟩ := OZ5.out.blk
        have cz0 : w5.cell? ⟨Z, 0, none⟩ = some (.int .i64 x.kind) := cz 0
        have cz1 : w5.cell? ⟨Z, 1, none⟩ = some (.int .i64 x.src) := cz 1
        have cz2 : w5.cell? ⟨Z, 2, none⟩ = some (.int .i64 x.dst) := cz 2
        have cz3 : w5.cell? ⟨Z, 3, none⟩ = some (.int .i64 x.prio) := cz 3
        have cz4 : w5.cell? ⟨Z, 4, none⟩ = some (.int .u64 x.msg) := cz 4
        have cz5 : w5.cell? ⟨Z, 5, none⟩ = some (.int .i64 x.off) := cz 5
        have cz6 : w5.cell? ⟨Z, 6, none⟩ = some (.int .i64 x.len) := cz 6
        have cz7 : w5.cell? ⟨Z, 7, none⟩ = some (.int .i64 x.total) := cz 7
        have cz8 : w5.cell? ⟨Z, 8, none⟩ = some (.int .i64 x.num) := cz 8
        have cz9 : w5.cell? ⟨Z, 9, none⟩ = some (.slice x.da x.dn x.dc) := cz 9
        have cz10 : w5.cell? ⟨Z, 10, none⟩ = some (.int .i64 x.path) := cz 10
        clear cz
        obtain ⟨lx, cx, fx⟩ := OX5.out.blk
        have cx0 : w5.cell? ⟨X, 0, none⟩ = some (.int .i64 0) := cx 0
        have cx1 : w5.cell? ⟨X, 1, none⟩ = some (.int .i64 0) := cx 1
        have cx2 : w5.cell? ⟨X, 2, none⟩ = some (.int .i64 0) := cx 2
        have cx3 : w5.cell? ⟨X, 3, none⟩ = some (.int .i64 0) := cx 3
        have cx4 : w5.cell? ⟨X, 4, none⟩ = some (.int .u64 0) := cx 4
        have cx5 : w5.cell? ⟨X, 5, none⟩ = some (.int .i64 0) := cx 5
        have cx6 : w5.cell? ⟨X, 6, none⟩ = some (.int .i64 0) := cx 6
        have cx7 : w5.cell? ⟨X, 7, none⟩ = some (.int .i64 0) := cx 7
        have cx8 : w5.cell? ⟨X, 8, none⟩ = some (.int .i64 0) := cx 8
        have cx9 : w5.cell? ⟨X, 9, none⟩ = some (.slice none 0 0) := cx 9
        have cx10 : w5.cell? ⟨X, 10, none⟩ = some (.int .i64 0) := cx 10
        clear cx
        go_wp2_with fail
        have hw : (((((((((((w5.setCell ⟨X, 0, none⟩ (.int .i64 x.kind)).setCell ⟨X, 1, none⟩ (.int .i64 x.src)).setCell ⟨X, 2, none⟩ (.int .i64 x.dst)).setCell ⟨X, 3, none⟩ (.int .i64 x.prio)).setCell ⟨X, 4, none⟩ (.int .u64 x.msg)).setCell ⟨X, 5, none⟩ (.int .i64 x.off)).setCell ⟨X, 6, none⟩ (.int .i64 x.len)).setCell ⟨X, 7, none⟩ (.int .i64 x.total)).setCell ⟨X, 8, none⟩ (.int .i64 x.num)).setCell ⟨X, 9, none⟩ (.slice x.da x.dn x.dc)).setCell ⟨X, 10, none⟩ (.int .i64 x.path)) = w5.setCells X 0 [.int .i64 x.kind, .int .i64 x.src, .int .i64 x.dst, .int .i64 x.prio, .int .u64 x.msg, .int .i64 x.off, .int .i64 x.len, .int .i64 x.total, .int .i64 x.num, .slice x.da x.dn x.dc, .int .i64 x.path] := rfl
        rw [hw]
        clear hw cx0 cx1 cx2 cx3 cx4 cx5 cx6 cx7 cx8 cx9 cx10 cz0 cz1 cz2 cz3 cz4 cz5 cz6 cz7 cz8 cz9 cz10 lz fz lx fx
        have OF := Lib.hid (OX5.out.sets [.int .i64 x.kind, .int .i64 x.src, .int .i64 x.dst, .int .i64 x.prio, .int .u64 x.msg, .int .i64 x.off, .int .i64 x.len, .int .i64 x.total, .int .i64 x.num, .slice x.da x.dn x.dc, .int .i64 x.path] rfl)
        have KF : Hid (Kept (Only X) w5 (w5.setCells X 0 [.int .i64 x.kind, .int .i64 x.src, .int .i64 x.dst, .int .i64 x.prio, .int .u64 x.msg, .int .i64 x.off, .int .i64 x.len, .int .i64 x.total, .int .i64 x.num, .slice x.da x.dn x.dc, .int .i64 x.path])) := Lib.hid ((Kept.refl (Only X) w5).setsO (X := X) (show X = X from rfl) _)
        have KW := Lib.hid (K6.out.setsN (X := X) (Nat.le_of_eq HX.out) [.int .i64 x.kind, .int .i64 x.src, .int .i64 x.dst, .int .i64 x.prio, .int .u64 x.msg, .int .i64 x.off, .int .i64 x.len, .int .i64 x.total, .int .i64 x.num, .slice x.da x.dn x.dc, .int .i64 x.path])
        have NX := Lib.hid (fun (v : Value) (l : List It) (hr : Rt w5 v l) (hv : ∀ a n c, v = .slice (some a) n c → a.block ≠ X) => show Rt (w5.setCells X 0 [.int .i64 x.kind, .int .i64 x.src, .int .i64 x.dst, .int .i64 x.prio, .int .u64 x.msg, .int .i64 x.off, .int .i64 x.len, .int .i64 x.total, .int .i64 x.num, .slice x.da x.dn x.dc, .int .i64 x.path]) v l from ⟨hr.rd.kept KF.out fun a n c h hh => hv a n c h hh, fun a n c h => (hr.ty a n c h).kept KF.out fun hh => hv a n c h hh⟩)
        have MF := Lib.hid (show Mo _ _ _ _ (w5.setCells X 0 [.int .i64 x.kind, .int .i64 x.src, .int .i64 x.dst, .int .i64 x.prio, .int .u64 x.msg, .int .i64 x.off, .int .i64 x.len, .int .i64 x.total, .int .i64 x.num, .slice x.da x.dn x.dc, .int .i64 x.path]) from ⟨M5.out.ob.kept KF.out (fun hh => hXm (show m = X from hh).symm), fun i hi => NX.out _ _ (M5.out.lines i hi) (HNL.out i hi), NX.out _ _ M5.out.cr HNC.out⟩)
        clear NX
        generalize w5.setCells X 0 [.int .i64 x.kind, .int .i64 x.src, .int .i64 x.dst, .int .i64 x.prio, .int .u64 x.msg, .int .i64 x.off, .int .i64 x.len, .int .i64 x.total, .int .i64 x.num, .slice x.da x.dn x.dc, .int .i64 x.path] = F at *
        obtain ⟨lf, cf, ff⟩ := OF.out.blk
        have cf0 : F.cell? ⟨X, 0, none⟩ = some (.int .i64 x.kind) := cf 0
        have cf1 : F.cell? ⟨X, 1, none⟩ = some (.int .i64 x.src) := cf 1
        have cf2 : F.cell? ⟨X, 2, none⟩ = some (.int .i64 x.dst) := cf 2
        have cf3 : F.cell? ⟨X, 3, none⟩ = some (.int .i64 x.prio) := cf 3
        have cf4 : F.cell? ⟨X, 4, none⟩ = some (.int .u64 x.msg) := cf 4
        have cf5 : F.cell? ⟨X, 5, none⟩ = some (.int .i64 x.off) := cf 5
        have cf6 : F.cell? ⟨X, 6, none⟩ = some (.int .i64 x.len) := cf 6
        have cf7 : F.cell? ⟨X, 7, none⟩ = some (.int .i64 x.total) := cf 7
        have cf8 : F.cell? ⟨X, 8, none⟩ = some (.int .i64 x.num) := cf 8
        have cf9 : F.cell? ⟨X, 9, none⟩ = some (.slice x.da x.dn x.dc) := cf 9
        have cf10 : F.cell? ⟨X, 10, none⟩ = some (.int .i64 x.path) := cf 10
        clear cf
        refine done (.tuple #[boxV x, .bool true]) rfl (by simp [boxV, results, Try.results23, go_sem, cf0, cf1, cf2, cf3, cf4, cf5, cf6, cf7, cf8, cf9, cf10]) (.inl ⟨q, j, hlt, hq8, HKJ.out, by rw [HXX.out], _, _, by rw [HLP.out]; exact MF.out, KW.out⟩)
      · go_wp2_with fail
        go_roundw
        case rel =>
          have hl2 : (wfrom t.L (r + 1)).length = (wfrom t.L r).length + (t.L q).length := by
            rw [wfrom, List.length_append, HQ.out]
          refine ⟨r + 1, by omega, by have := HQI.out; congr 1; push_cast; omega, Lib.hid (by have := HJ.out; omega), by have := HJI.out; congr 1; rw [hl2]; push_cast; omega, M4.out, OX4.out, B4.out⟩
        case measure => simp [intOf]
    · obtain rfl : r = 8 := by omega
      rw [show (7 : Int) - ((8 : Nat) : Int) = -1 from rfl]
      obtain ⟨j, HJ⟩ : ∃ j : Nat, Hid (k = (wfrom t.L 8).length + j) := ⟨k - (wfrom t.L 8).length, Lib.hid (by have := HE.out; omega)⟩
      have HJI : Hid ((k : Int) - (wfrom t.L 8).length = j) := Lib.hid (by have := HJ.out; omega)
      have hj9 : j ≤ 9223372036854775807 := by have := HJ.out; omega
      rw [HJI.out]
      have hcl := HO.out.clen
      obtain ⟨a, c, hv, hlc, hcm⟩ := M4.out.cr.form
      have cl : wk.cell? ⟨m, 11, none⟩ = some (.slice a t.C.length c) := by rw [← hv]; exact (M4.out.ob.blk).2.1 11
      have HV := Lib.hid hv
      clear hv
      by_cases hlt : j < t.C.length
      · have hrd := M4.out.cr
        rw [HV.out] at hrd
        obtain ⟨g, o, hgo, hg, hc⟩ := hrd.rd.row rowIt (by decide) j hlt
        cases hgo
        obtain ⟨x, hx⟩ : ∃ x, t.C[j] = x := ⟨_, rfl⟩
        have HXX := Lib.hid hx
        have hc2 : ∀ i u, (x.row)[i]? = some u → wk.cell? ⟨g, o + j * 11 + i, none⟩ = some u := fun i u hi => hc i u (by
          show (It.row (t.C[j]))[i]? = some u
          rw [hx]; exact hi)
        have c0 : wk.cell? ⟨g, o + j * 11, none⟩ = some (.int .i64 x.kind) := hc2 0 _ rfl
        have c1 : wk.cell? ⟨g, o + j * 11 + 1, none⟩ = some (.int .i64 x.src) := hc2 1 _ rfl
        have c2 : wk.cell? ⟨g, o + j * 11 + 2, none⟩ = some (.int .i64 x.dst) := hc2 2 _ rfl
        have c3 : wk.cell? ⟨g, o + j * 11 + 3, none⟩ = some (.int .i64 x.prio) := hc2 3 _ rfl
        have c4 : wk.cell? ⟨g, o + j * 11 + 4, none⟩ = some (.int .u64 x.msg) := hc2 4 _ rfl
        have c5 : wk.cell? ⟨g, o + j * 11 + 5, none⟩ = some (.int .i64 x.off) := hc2 5 _ rfl
        have c6 : wk.cell? ⟨g, o + j * 11 + 6, none⟩ = some (.int .i64 x.len) := hc2 6 _ rfl
        have c7 : wk.cell? ⟨g, o + j * 11 + 7, none⟩ = some (.int .i64 x.total) := hc2 7 _ rfl
        have c8 : wk.cell? ⟨g, o + j * 11 + 8, none⟩ = some (.int .i64 x.num) := hc2 8 _ rfl
        have c9 : wk.cell? ⟨g, o + j * 11 + 9, none⟩ = some (.slice x.da x.dn x.dc) := hc2 9 _ rfl
        have c10 : wk.cell? ⟨g, o + j * 11 + 10, none⟩ = some (.int .i64 x.path) := hc2 10 _ rfl
        clear hc hc2 hrd hx
        go_upto_region 14 with fail
        have OZ := Lib.hid (Ob.new wk #[.int .i64 x.kind, .int .i64 x.src, .int .i64 x.dst, .int .i64 x.prio, .int .u64 x.msg, .int .i64 x.off, .int .i64 x.len, .int .i64 x.total, .int .i64 x.num, .slice x.da x.dn x.dc, .int .i64 x.path] TX)
        have KA : Hid (Kept (fun _ => False) wk (wk.alloc (.cells #[.int .i64 x.kind, .int .i64 x.src, .int .i64 x.dst, .int .i64 x.prio, .int .u64 x.msg, .int .i64 x.off, .int .i64 x.len, .int .i64 x.total, .int .i64 x.num, .slice x.da x.dn x.dc, .int .i64 x.path] TX))) := Lib.hid ((Kept.refl _ _).alloc _)
        have M5a := Lib.hid (M4.out.keptF KA.out)
        have OX5a := Lib.hid (OX4.out.kept KA.out (fun h => h))
        have lX3 := OX4.out.lt
        obtain ⟨Z, HZ⟩ : ∃ Z, Hid (wk.heap.size = Z) := ⟨_, Lib.hid rfl⟩
        rw [HZ.out] at OZ ⊢
        have hXZ : X ≠ Z := by have := HZ.out; omega
        have hmZ : m ≠ Z := by have := HZ.out; omega
        clear lm fm cl c0 c1 c2 c3 c4 c5 c6 c7 c8 c9 c10
        generalize wk.alloc (.cells #[.int .i64 x.kind, .int .i64 x.src, .int .i64 x.dst, .int .i64 x.prio, .int .u64 x.msg, .int .i64 x.off, .int .i64 x.len, .int .i64 x.total, .int .i64 x.num, .slice x.da x.dn x.dc, .int .i64 x.path] TX) = w4 at *
        have lm := M5a.out.ob.lt
        have fm := (M5a.out.ob.blk).2.2
        have cl : w4.cell? ⟨m, 11, none⟩ = some (.slice (some ⟨g, o, none⟩) t.C.length c) := by rw [← HV.out]; exact (M5a.out.ob.blk).2.1 11
        have hmw := mwithout (some ⟨g, o, none⟩) c t.C j w4 (by
          have h1 := M5a.out.cr
          rw [HV.out] at h1
          exact h1) hlt (by omega) hlc
        obtain ⟨L', HLP⟩ : ∃ L', Hid (t.C.take j ++ t.C.drop (j + 1) = L') := ⟨_, Lib.hid rfl⟩
        rw [HLP.out] at hmw
        have nm : ¬ Since w4.heap.size m := not_since lm
        have HXW : Hid (X < w4.heap.size) := Lib.hid OX5a.out.lt
        go_wp2_with fail
        refine (hmw).mono ?_
        rintro e w6 ⟨v6, rfl, ho6, hb6⟩
        clear hmw
        obtain ⟨a6, c6, rfl, _, _⟩ := (Rd.of_own ho6).form
        have K6a : Hid (Kept (Since w4.heap.size) w4 w6) := Lib.hid (Kept.of_below hb6)
        have hlb : m < w6.heap.size := Nat.lt_of_lt_of_le lm K6a.out.size
        have hfb : ∀ i, w6.frozen? ⟨m, i, none⟩ = false := fun i => (K6a.out.frozen m i lm nm).trans (fm i)
        have hcb : w6.cell? ⟨m, 11, none⟩ = some (.slice (some ⟨g, o, none⟩) t.C.length c) := (K6a.out.cell m 11 lm nm).trans cl
        have hge := Lib.hid (fun (a : Addr) (n c' : Nat) hv => own_ge ho6 (a := a) (n' := n) (c := c') hv)
        have S6 := Lib.hid (M5a.out.setCred K6a.out ho6)
        have OX6 := Lib.hid (OX5a.out.kept K6a.out (not_since HXW.out))
        have OZ6 := Lib.hid (OZ.out.kept K6a.out (not_since OZ.out.lt))
        clear ho6 hb6 lm fm cl
        go_upto_region 15 with fail
        obtain ⟨s1, s2⟩ := S6.out
        have M5 := Lib.hid s1
        have K6 := Lib.hid ((((Kept.of_below (M := Only m) B4.out).trans (KA.out.mono fun _ _ h => h.elim)).trans s2))
        have OX5 := Lib.hid ((OX6.out.other ⟨m, 11, none⟩ (.slice a6 L'.length c6) hXm))
        have OZ5 := Lib.hid ((OZ6.out.other ⟨m, 11, none⟩ (.slice a6 L'.length c6) (fun hh => hmZ hh.symm)))
        have HNC5 := Lib.hid (fun (a : Addr) (n c' : Nat) (hv : Value.slice a6 L'.length c6 = .slice (some a) n c') => show a.block ≠ X from by
          have h1 : w4.heap.size ≤ a.block := hge.out a n c' hv
          have := HXW.out
          omega)
        replace HNC := HNC5
        clear hlb hfb hcb s1 s2
        generalize w6.setCell ⟨m, 11, none⟩ (.slice a6 L'.length c6) = w5 at *
        obtain ⟨lz, cz, fz⟩ := OZ5.out.blk
        have cz0 : w5.cell? ⟨Z, 0, none⟩ = some (.int .i64 x.kind) := cz 0
        have cz1 : w5.cell? ⟨Z, 1, none⟩ = some (.int .i64 x.src) := cz 1
        have cz2 : w5.cell? ⟨Z, 2, none⟩ = some (.int .i64 x.dst) := cz 2
        have cz3 : w5.cell? ⟨Z, 3, none⟩ = some (.int .i64 x.prio) := cz 3
        have cz4 : w5.cell? ⟨Z, 4, none⟩ = some (.int .u64 x.msg) := cz 4
        have cz5 : w5.cell? ⟨Z, 5, none⟩ = some (.int .i64 x.off) := cz 5
        have cz6 : w5.cell? ⟨Z, 6, none⟩ = some (.int .i64 x.len) := cz 6
        have cz7 : w5.cell? ⟨Z, 7, none⟩ = some (.int .i64 x.total) := cz 7
        have cz8 : w5.cell? ⟨Z, 8, none⟩ = some (.int .i64 x.num) := cz 8
        have cz9 : w5.cell? ⟨Z, 9, none⟩ = some (.slice x.da x.dn x.dc) := cz 9
        have cz10 : w5.cell? ⟨Z, 10, none⟩ = some (.int .i64 x.path) := cz 10
        clear cz
        obtain ⟨lx, cx, fx⟩ := OX5.out.blk
        have cx0 : w5.cell? ⟨X, 0, none⟩ = some (.int .i64 0) := cx 0
        have cx1 : w5.cell? ⟨X, 1, none⟩ = some (.int .i64 0) := cx 1
        have cx2 : w5.cell? ⟨X, 2, none⟩ = some (.int .i64 0) := cx 2
        have cx3 : w5.cell? ⟨X, 3, none⟩ = some (.int .i64 0) := cx 3
        have cx4 : w5.cell? ⟨X, 4, none⟩ = some (.int .u64 0) := cx 4
        have cx5 : w5.cell? ⟨X, 5, none⟩ = some (.int .i64 0) := cx 5
        have cx6 : w5.cell? ⟨X, 6, none⟩ = some (.int .i64 0) := cx 6
        have cx7 : w5.cell? ⟨X, 7, none⟩ = some (.int .i64 0) := cx 7
        have cx8 : w5.cell? ⟨X, 8, none⟩ = some (.int .i64 0) := cx 8
        have cx9 : w5.cell? ⟨X, 9, none⟩ = some (.slice none 0 0) := cx 9
        have cx10 : w5.cell? ⟨X, 10, none⟩ = some (.int .i64 0) := cx 10
        clear cx
        go_wp2_with fail
        have hw : (((((((((((w5.setCell ⟨X, 0, none⟩ (.int .i64 x.kind)).setCell ⟨X, 1, none⟩ (.int .i64 x.src)).setCell ⟨X, 2, none⟩ (.int .i64 x.dst)).setCell ⟨X, 3, none⟩ (.int .i64 x.prio)).setCell ⟨X, 4, none⟩ (.int .u64 x.msg)).setCell ⟨X, 5, none⟩ (.int .i64 x.off)).setCell ⟨X, 6, none⟩ (.int .i64 x.len)).setCell ⟨X, 7, none⟩ (.int .i64 x.total)).setCell ⟨X, 8, none⟩ (.int .i64 x.num)).setCell ⟨X, 9, none⟩ (.slice x.da x.dn x.dc)).setCell ⟨X, 10, none⟩ (.int .i64 x.path)) = w5.setCells X 0 [.int .i64 x.kind, .int .i64 x.src, .int .i64 x.dst, .int .i64 x.prio, .int .u64 x.msg, .int .i64 x.off, .int .i64 x.len, .int .i64 x.total, .int .i64 x.num, .slice x.da x.dn x.dc, .int .i64 x.path] := rfl
        rw [hw]
        clear hw cx0 cx1 cx2 cx3 cx4 cx5 cx6 cx7 cx8 cx9 cx10 cz0 cz1 cz2 cz3 cz4 cz5 cz6 cz7 cz8 cz9 cz10 lz fz lx fx
        have OF := Lib.hid (OX5.out.sets [.int .i64 x.kind, .int .i64 x.src, .int .i64 x.dst, .int .i64 x.prio, .int .u64 x.msg, .int .i64 x.off, .int .i64 x.len, .int .i64 x.total, .int .i64 x.num, .slice x.da x.dn x.dc, .int .i64 x.path] rfl)
        have KF : Hid (Kept (Only X) w5 (w5.setCells X 0 [.int .i64 x.kind, .int .i64 x.src, .int .i64 x.dst, .int .i64 x.prio, .int .u64 x.msg, .int .i64 x.off, .int .i64 x.len, .int .i64 x.total, .int .i64 x.num, .slice x.da x.dn x.dc, .int .i64 x.path])) := Lib.hid ((Kept.refl (Only X) w5).setsO (X := X) (show X = X from rfl) _)
        have KW := Lib.hid (K6.out.setsN (X := X) (Nat.le_of_eq HX.out) [.int .i64 x.kind, .int .i64 x.src, .int .i64 x.dst, .int .i64 x.prio, .int .u64 x.msg, .int .i64 x.off, .int .i64 x.len, .int .i64 x.total, .int .i64 x.num, .slice x.da x.dn x.dc, .int .i64 x.path])
        have NX := Lib.hid (fun (v : Value) (l : List It) (hr : Rt w5 v l) (hv : ∀ a n c, v = .slice (some a) n c → a.block ≠ X) => show Rt (w5.setCells X 0 [.int .i64 x.kind, .int .i64 x.src, .int .i64 x.dst, .int .i64 x.prio, .int .u64 x.msg, .int .i64 x.off, .int .i64 x.len, .int .i64 x.total, .int .i64 x.num, .slice x.da x.dn x.dc, .int .i64 x.path]) v l from ⟨hr.rd.kept KF.out fun a n c h hh => hv a n c h hh, fun a n c h => (hr.ty a n c h).kept KF.out fun hh => hv a n c h hh⟩)
        have MF := Lib.hid (show Mo _ _ _ _ (w5.setCells X 0 [.int .i64 x.kind, .int .i64 x.src, .int .i64 x.dst, .int .i64 x.prio, .int .u64 x.msg, .int .i64 x.off, .int .i64 x.len, .int .i64 x.total, .int .i64 x.num, .slice x.da x.dn x.dc, .int .i64 x.path]) from ⟨M5.out.ob.kept KF.out (fun hh => hXm (show m = X from hh).symm), fun i hi => NX.out _ _ (M5.out.lines i hi) (HNL.out i hi), NX.out _ _ M5.out.cr HNC.out⟩)
        clear NX
        generalize w5.setCells X 0 [.int .i64 x.kind, .int .i64 x.src, .int .i64 x.dst, .int .i64 x.prio, .int .u64 x.msg, .int .i64 x.off, .int .i64 x.len, .int .i64 x.total, .int .i64 x.num, .slice x.da x.dn x.dc, .int .i64 x.path] = F at *
        obtain ⟨lf, cf, ff⟩ := OF.out.blk
        have cf0 : F.cell? ⟨X, 0, none⟩ = some (.int .i64 x.kind) := cf 0
        have cf1 : F.cell? ⟨X, 1, none⟩ = some (.int .i64 x.src) := cf 1
        have cf2 : F.cell? ⟨X, 2, none⟩ = some (.int .i64 x.dst) := cf 2
        have cf3 : F.cell? ⟨X, 3, none⟩ = some (.int .i64 x.prio) := cf 3
        have cf4 : F.cell? ⟨X, 4, none⟩ = some (.int .u64 x.msg) := cf 4
        have cf5 : F.cell? ⟨X, 5, none⟩ = some (.int .i64 x.off) := cf 5
        have cf6 : F.cell? ⟨X, 6, none⟩ = some (.int .i64 x.len) := cf 6
        have cf7 : F.cell? ⟨X, 7, none⟩ = some (.int .i64 x.total) := cf 7
        have cf8 : F.cell? ⟨X, 8, none⟩ = some (.int .i64 x.num) := cf 8
        have cf9 : F.cell? ⟨X, 9, none⟩ = some (.slice x.da x.dn x.dc) := cf 9
        have cf10 : F.cell? ⟨X, 10, none⟩ = some (.int .i64 x.path) := cf 10
        clear cf
        refine done (.tuple #[boxV x, .bool true]) rfl (by simp [boxV, results, Try.results23, go_sem, cf0, cf1, cf2, cf3, cf4, cf5, cf6, cf7, cf8, cf9, cf10]) (.inr (.inl ⟨j, hlt, HJ.out, by rw [HXX.out], _, _, by rw [HLP.out]; exact MF.out, KW.out⟩))
      · obtain ⟨lx, cx, fx⟩ := OX4.out.blk
        have cx0 : wk.cell? ⟨X, 0, none⟩ = some (.int .i64 0) := cx 0
        have cx1 : wk.cell? ⟨X, 1, none⟩ = some (.int .i64 0) := cx 1
        have cx2 : wk.cell? ⟨X, 2, none⟩ = some (.int .i64 0) := cx 2
        have cx3 : wk.cell? ⟨X, 3, none⟩ = some (.int .i64 0) := cx 3
        have cx4 : wk.cell? ⟨X, 4, none⟩ = some (.int .u64 0) := cx 4
        have cx5 : wk.cell? ⟨X, 5, none⟩ = some (.int .i64 0) := cx 5
        have cx6 : wk.cell? ⟨X, 6, none⟩ = some (.int .i64 0) := cx 6
        have cx7 : wk.cell? ⟨X, 7, none⟩ = some (.int .i64 0) := cx 7
        have cx8 : wk.cell? ⟨X, 8, none⟩ = some (.int .i64 0) := cx 8
        have cx9 : wk.cell? ⟨X, 9, none⟩ = some (.slice none 0 0) := cx 9
        have cx10 : wk.cell? ⟨X, 10, none⟩ = some (.int .i64 0) := cx 10
        clear cx
        go_wp2_with fail
        have hw : (((((((((((wk.setCell ⟨X, 0, none⟩ (.int .i64 0)).setCell ⟨X, 1, none⟩ (.int .i64 0)).setCell ⟨X, 2, none⟩ (.int .i64 0)).setCell ⟨X, 3, none⟩ (.int .i64 0)).setCell ⟨X, 4, none⟩ (.int .u64 0)).setCell ⟨X, 5, none⟩ (.int .i64 0)).setCell ⟨X, 6, none⟩ (.int .i64 0)).setCell ⟨X, 7, none⟩ (.int .i64 0)).setCell ⟨X, 8, none⟩ (.int .i64 0)).setCell ⟨X, 9, none⟩ (.slice none 0 0)).setCell ⟨X, 10, none⟩ (.int .i64 0)) = wk.setCells X 0 [.int .i64 0, .int .i64 0, .int .i64 0, .int .i64 0, .int .u64 0, .int .i64 0, .int .i64 0, .int .i64 0, .int .i64 0, .slice none 0 0, .int .i64 0] := rfl
        rw [hw]
        clear hw cx0 cx1 cx2 cx3 cx4 cx5 cx6 cx7 cx8 cx9 cx10 lx fx
        have OF := Lib.hid (OX4.out.sets [.int .i64 0, .int .i64 0, .int .i64 0, .int .i64 0, .int .u64 0, .int .i64 0, .int .i64 0, .int .i64 0, .int .i64 0, .slice none 0 0, .int .i64 0] rfl)
        have KW := Lib.hid (Below.sets B4.out (X := X) (Nat.le_of_eq HX.out) B4.out.size [.int .i64 0, .int .i64 0, .int .i64 0, .int .i64 0, .int .u64 0, .int .i64 0, .int .i64 0, .int .i64 0, .int .i64 0, .slice none 0 0, .int .i64 0])
        generalize wk.setCells X 0 [.int .i64 0, .int .i64 0, .int .i64 0, .int .i64 0, .int .u64 0, .int .i64 0, .int .i64 0, .int .i64 0, .int .i64 0, .slice none 0 0, .int .i64 0] = F at *
        obtain ⟨lf, cf, ff⟩ := OF.out.blk
        have cf0 : F.cell? ⟨X, 0, none⟩ = some (.int .i64 0) := cf 0
        have cf1 : F.cell? ⟨X, 1, none⟩ = some (.int .i64 0) := cf 1
        have cf2 : F.cell? ⟨X, 2, none⟩ = some (.int .i64 0) := cf 2
        have cf3 : F.cell? ⟨X, 3, none⟩ = some (.int .i64 0) := cf 3
        have cf4 : F.cell? ⟨X, 4, none⟩ = some (.int .u64 0) := cf 4
        have cf5 : F.cell? ⟨X, 5, none⟩ = some (.int .i64 0) := cf 5
        have cf6 : F.cell? ⟨X, 6, none⟩ = some (.int .i64 0) := cf 6
        have cf7 : F.cell? ⟨X, 7, none⟩ = some (.int .i64 0) := cf 7
        have cf8 : F.cell? ⟨X, 8, none⟩ = some (.int .i64 0) := cf 8
        have cf9 : F.cell? ⟨X, 9, none⟩ = some (.slice none 0 0) := cf 9
        have cf10 : F.cell? ⟨X, 10, none⟩ = some (.int .i64 0) := cf 10
        clear cf
        exact done (.tuple #[noBox, .bool false]) rfl (by simp [noBox, results, Try.results23, go_sem, cf0, cf1, cf2, cf3, cf4, cf5, cf6, cf7, cf8, cf9, cf10]) (.inr (.inr ⟨by unfold Mp.waits; rw [List.length_append]; have := HJ.out; omega, rfl, HX.out ▸ KW.out⟩))
end Go.Proofs.Ythgkminjhpaakaa
