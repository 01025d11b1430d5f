/- The document's port (chapter 13): Take of a line. -/
import Derived.Test.YthgkminjhpaakaaPoRg
namespace Go.Proofs.Ythgkminjhpaakaa
open Go.RowKit

theorem Mo.setLineR {m : Nat} {U : Nat → Value} {uc : Value} {t : Mp} {w : World} (h : Mo m U uc t w) {q : Nat} (hq : q < 8) {v' : Value} {l' : List It} (hr : Rt w v' l') : Mo m (upd U q v') uc { t with L := upd t.L q l' } (w.setCell ⟨m, 3 + q, none⟩ v') ∧ Kept (Only m) w (w.setCell ⟨m, 3 + q, none⟩ v') := by
  have hkb : Kept (Only m) w (w.setCell ⟨m, 3 + q, none⟩ v') := (Kept.refl _ _).setO
  refine ⟨⟨?_, fun i hi => ?_, h.row hkb h.cr⟩, hkb⟩
  · exact Ob.cast (h.ob.set (3 + q) v') (m_set U uc t q hq v')
  · by_cases hiq : i = q
    · subst hiq
      rw [upd_same]
      show Rt _ v' (upd t.L i l' i)
      rw [upd_same]
      exact h.row hkb hr
    · rw [upd_other _ _ hiq]
      show Rt _ (U i) (upd t.L q l' i)
      rw [upd_other _ _ hiq]
      exact h.row hkb (h.lines i hi)
def MTakeQ (m : Nat) (t : Mp) (T : Int) (w : World) (e : Ending) (w' : World) : Prop :=
  (e = .returned (.tuple #[noBox, .bool false]) ∧ (∀ i, i < 8 → t.L i = []) ∧ MoPost m { t with now := T } w w') ∨
    ∃ (i : Nat) (x : It) (r : List It), i < 8 ∧ t.L i = x :: r ∧ (∀ j, i < j → j < 8 → t.L j = []) ∧ e = .returned (.tuple #[boxV x, .bool true]) ∧ MoPost m { t with now := T, L := upd t.L i r } w w'
set_option maxRecDepth 100000 in
set_option maxHeartbeats 4000000 in
theorem mtake_line (m : Nat) (U : Nat → Value) (uc : Value) (t : Mp) (N : Nat) (now T : Int) (w : World) (h : Mo m U uc t w) (ho : t.ok N) (hT : max t.now (min now 1125899906842624) = T) (hd : t.C.length = 0 ∨ (0 < t.C.length ∧ t.ever = true ∧ T - t.last < 4)) (hb : 0 ≤ T ∧ T ≤ 1125899906842624 ∧ 0 ≤ t.last ∧ t.last ≤ 1125899906842624) : Calls Try.prog 20 #[.pointer (some ⟨m, 0, none⟩), .int .i64 now] w (MTakeQ m t T w) := by
  have HO := Lib.hid ho
  have HD := Lib.hid hd
  clear hd ho
  have HM := Lib.hid h
  have HT := Lib.hid hT
  clear h hT
  go_enter Try.func20, Try.ntmps20
  go_upto_region 1 with fail
  have OX := Lib.hid (Ob.new w #[.int .i64 0, .int .i64 0, .int .i64 0, .int .i64 0, .int .u64 0, .int .i64 0, .int .i64 0, .int .i64 0, .int .i64 0, .slice none 0 0, .int .i64 0] TX)
  have HB := Lib.hid ((Below.refl w.heap.size w).alloc (Nat.le_refl _) (.cells #[.int .i64 0, .int .i64 0, .int .i64 0, .int .i64 0, .int .u64 0, .int .i64 0, .int .i64 0, .int .i64 0, .int .i64 0, .slice none 0 0, .int .i64 0] TX))
  have M1 := Lib.hid (HM.out.below HB.out)
  generalize w.alloc (.cells #[.int .i64 0, .int .i64 0, .int .i64 0, .int .i64 0, .int .u64 0, .int .i64 0, .int .i64 0, .int .i64 0, .int .i64 0, .slice none 0 0, .int .i64 0] TX) = w1 at *
  obtain ⟨X, HX⟩ : ∃ X, Hid (w.heap.size = X) := ⟨_, Lib.hid rfl⟩
  rw [HX.out] at OX ⊢
  have hXm : X ≠ m := fun hh => absurd (Ty.one (by rw [hh] at OX; exact OX.out.ty) M1.out.ob.ty) (by decide)
  have lm := M1.out.ob.lt
  have fm := (M1.out.ob.blk).2.2
  have cm12 : w1.cell? ⟨m, 12, none⟩ = some (.int .i64 t.now) := (M1.out.ob.blk).2.1 12
  go_upto_region 2 with fail
  rw [HT.out]
  have M2 := Lib.hid (M1.out.cell12 T)
  have OX2 := Lib.hid (OX.out.other ⟨m, 12, none⟩ (.int .i64 T) hXm)
  have K2 := Lib.hid ((Kept.of_below (M := Only m) HB.out).trans (Kept.setO (b := m) (i := 12) (v := .int .i64 T) (Kept.refl _ _)))
  clear lm fm cm12
  generalize w1.setCell ⟨m, 12, none⟩ (.int .i64 T) = w2 at *
  have lm := M2.out.ob.lt
  have cm12 : w2.cell? ⟨m, 12, none⟩ = some (.int .i64 T) := (M2.out.ob.blk).2.1 12
  have cm13 : w2.cell? ⟨m, 13, none⟩ = some (.int .i64 t.last) := (M2.out.ob.blk).2.1 13
  have cm14 : w2.cell? ⟨m, 14, none⟩ = some (.bool t.ever) := (M2.out.ob.blk).2.1 14
  obtain ⟨a, c, hv, hlc, hcm⟩ := M2.out.cr.form
  have HV := Lib.hid hv
  have cl : w2.cell? ⟨m, 11, none⟩ = some (.slice a t.C.length c) := by rw [← hv]; exact (M2.out.ob.blk).2.1 11
  clear hv
  go_cut [43] from 19 (fun s wx => s = .bool false ∧ Mo m U uc { t with now := T } wx ∧ Ob wx X #[.int .i64 0, .int .i64 0, .int .i64 0, .int .i64 0, .int .u64 0, .int .i64 0, .int .i64 0, .int .i64 0, .int .i64 0, .slice none 0 0, .int .i64 0] TX ∧ Kept (Only m) w wx)
  case first =>
    rcases HD.out with he | ⟨h0, he, hd⟩
    · rw [he] at cl
      refine wp_region_quiet_lit (by kernel_rfl) (by kernel_rfl) ?_
      try simp only [List.append]
      repeat (first | go_big_quiet_step (fail) | quiet_step (fail))
      refine wpQuiet_nil ?_
      intro W hW
      have MW : Hid (Mo m U uc { t with now := T } W) := by obtain ⟨n, rfl⟩ := hW; exact Lib.hid (M2.out.keptF (Kept.dn _ _ _))
      have OW : Hid (Ob W X #[.int .i64 0, .int .i64 0, .int .i64 0, .int .i64 0, .int .u64 0, .int .i64 0, .int .i64 0, .int .i64 0, .int .i64 0, .slice none 0 0, .int .i64 0] TX) := by obtain ⟨n, rfl⟩ := hW; exact Lib.hid OX2.out.dn
      have KW : Hid (Kept (Only m) w W) := by obtain ⟨n, rfl⟩ := hW; exact Lib.hid (K2.out.dnR n)
      clear hW
      go_wp2_with fail
      go_meet
      exact ⟨rfl, MW.out, OW.out, KW.out⟩
    · rw [he] at cm14
      refine wp_region_quiet_lit (by kernel_rfl) (by kernel_rfl) ?_
      try simp only [List.append]
      repeat (first | go_big_quiet_step (fail) | quiet_step (fail))
      refine wpQuiet_nil ?_
      intro W hW
      have MW : Hid (Mo m U uc { t with now := T } W) := by obtain ⟨n, rfl⟩ := hW; exact Lib.hid (M2.out.keptF (Kept.dn _ _ _))
      have OW : Hid (Ob W X #[.int .i64 0, .int .i64 0, .int .i64 0, .int .i64 0, .int .u64 0, .int .i64 0, .int .i64 0, .int .i64 0, .int .i64 0, .slice none 0 0, .int .i64 0] TX) := by obtain ⟨n, rfl⟩ := hW; exact Lib.hid OX2.out.dn
      have KW : Hid (Kept (Only m) w W) := by obtain ⟨n, rfl⟩ := hW; exact Lib.hid (K2.out.dnR n)
      clear hW
      go_wp2_with fail
      go_meet
      exact ⟨by rw [decide_eq_false (by omega)], MW.out, OW.out, KW.out⟩
  case rest =>
  obtain ⟨rfl, hm3, ho3, hk3⟩ := hcut
  have M3 := Lib.hid hm3
  have OX3 := Lib.hid ho3
  have K3 := Lib.hid hk3
  clear hm3 ho3 hk3 lm cm12 cm13 cm14 cl
  rename World => w3
  have HNL := Lib.hid (fun (i : Nat) (hi : i < 8) (a : Addr) (n c : Nat) (hv : U i = .slice (some a) n c) => show a.block ≠ X from by
    obtain ⟨cs, h2⟩ := (HM.out.lines i hi).ty a n c hv
    have := heap_lt h2
    have := HX.out
    omega)
  have HNC := Lib.hid (fun (a : Addr) (n c' : Nat) (hv : uc = .slice (some a) n c') => show a.block ≠ X from by
    obtain ⟨cs, h4⟩ := HM.out.cr.ty _ _ _ hv
    have := heap_lt h4
    have := HX.out
    omega)
  go_wp2_with fail
  go_loopw [5, 7, 8] (fun _ k _ wr => ∃ r : Nat, r ≤ 8 ∧ k = .int .i64 (7 - r) ∧ Hid (∀ j, 7 < j + r → j < 8 → t.L j = []) ∧ Mo m U uc { t with now := T } wr ∧ Ob wr X #[.int .i64 0, .int .i64 0, .int .i64 0, .int .i64 0, .int .u64 0, .int .i64 0, .int .i64 0, .int .i64 0, .int .i64 0, .slice none 0 0, .int .i64 0] TX ∧ Kept (Only m) w wr) (fun _ k _ _ => (intOf k + 1).toNat)
  case atStart => exact ⟨0, by omega, rfl, Lib.hid (fun j h1 h2 => by omega), M3.out, OX3.out, K3.out⟩
  case round =>
    obtain ⟨r, hr, rfl, HE, hm4, ho4, hk4⟩ := hrel
    have M4 := Lib.hid hm4
    have OX4 := Lib.hid ho4
    have K4 := Lib.hid hk4
    clear hm4 ho4 hk4
    rename World => wk
    have lm := M4.out.ob.lt
    have fm := (M4.out.ob.blk).2.2
    by_cases h8 : r < 8
    · obtain ⟨q, hq⟩ : ∃ q : Nat, q = 7 - r := ⟨_, rfl⟩
      have hq8 : q < 8 := by omega
      have hqi : (7 : Int) - r = q := by omega
      have hlq := HO.out.len q hq8
      have HQ := Lib.hid hq
      have HQI := Lib.hid hqi
      rw [hqi]
      clear hq hqi
      obtain ⟨a, c, hv, hlc, hcm⟩ := (M4.out.lines q hq8).form
      have cl : wk.cell? ⟨m, 3 + q, none⟩ = some (.slice a (t.L q).length c) := by rw [M4.out.line hq8, hv]
      have HV := Lib.hid hv
      clear hv
      rcases Nat.eq_zero_or_pos (t.L q).length with hz | hz
      · have HZ0 := Lib.hid (List.eq_nil_of_length_eq_zero hz)
        rw [hz] at cl
        clear hz
        go_wp2_with fail
        go_roundw
        case rel =>
          refine ⟨r + 1, by omega, by have := HQI.out; congr 1; push_cast; omega, Lib.hid (fun j h1 h2 => ?_), M4.out, OX4.out, K4.out⟩
          by_cases hj : j = q
          · rw [hj]; exact HZ0.out
          · exact HE.out j (by have := HQ.out; omega) h2
        case measure => simp [intOf]
      · obtain ⟨x, rr, hxr⟩ : ∃ x r, t.L q = x :: r := List.exists_cons_of_ne_nil (by intro hh; rw [hh] at hz; cases hz)
        have HXR := Lib.hid hxr
        have hrd := M4.out.lines q hq8
        rw [HV.out] at hrd
        obtain ⟨g, o, hgo, hg, hc⟩ := hrd.rd.row rowIt (by decide) 0 hz
        cases hgo
        have hx0 : (t.L q)[0] = x := by simp [hxr]
        have hc2 : ∀ j u, (x.row)[j]? = some u → wk.cell? ⟨g, o + 0 * 11 + j, none⟩ = some u := fun j u hj => hc j u (by
          show (It.row ((t.L q)[0]))[j]? = some u
          rw [hx0]; exact hj)
        have c0 : wk.cell? ⟨g, o, none⟩ = some (.int .i64 x.kind) := hc2 0 _ rfl
        have c1 : wk.cell? ⟨g, o + 1, none⟩ = some (.int .i64 x.src) := hc2 1 _ rfl
        have c2 : wk.cell? ⟨g, o + 2, none⟩ = some (.int .i64 x.dst) := hc2 2 _ rfl
        have c3 : wk.cell? ⟨g, o + 3, none⟩ = some (.int .i64 x.prio) := hc2 3 _ rfl
        have c4 : wk.cell? ⟨g, o + 4, none⟩ = some (.int .u64 x.msg) := hc2 4 _ rfl
        have c5 : wk.cell? ⟨g, o + 5, none⟩ = some (.int .i64 x.off) := hc2 5 _ rfl
        have c6 : wk.cell? ⟨g, o + 6, none⟩ = some (.int .i64 x.len) := hc2 6 _ rfl
        have c7 : wk.cell? ⟨g, o + 7, none⟩ = some (.int .i64 x.total) := hc2 7 _ rfl
        have c8 : wk.cell? ⟨g, o + 8, none⟩ = some (.int .i64 x.num) := hc2 8 _ rfl
        have c9 : wk.cell? ⟨g, o + 9, none⟩ = some (.slice x.da x.dn x.dc) := hc2 9 _ rfl
        have c10 : wk.cell? ⟨g, o + 10, none⟩ = some (.int .i64 x.path) := hc2 10 _ rfl
        have HRT := Lib.hid (hrd.tail 1 hz)
        clear hc hc2 hrd hx0 hxr
        go_upto_region 13 with fail
        have OZ := Lib.hid (Ob.new wk #[.int .i64 x.kind, .int .i64 x.src, .int .i64 x.dst, .int .i64 x.prio, .int .u64 x.msg, .int .i64 x.off, .int .i64 x.len, .int .i64 x.total, .int .i64 x.num, .slice x.da x.dn x.dc, .int .i64 x.path] TX)
        have KA : Hid (Kept (fun _ => False) wk (wk.alloc (.cells #[.int .i64 x.kind, .int .i64 x.src, .int .i64 x.dst, .int .i64 x.prio, .int .u64 x.msg, .int .i64 x.off, .int .i64 x.len, .int .i64 x.total, .int .i64 x.num, .slice x.da x.dn x.dc, .int .i64 x.path] TX))) := Lib.hid ((Kept.refl _ _).alloc _)
        have M5a := Lib.hid (M4.out.keptF KA.out)
        have OX5a := Lib.hid (OX4.out.kept KA.out (fun h => h))
        have RT5 := Lib.hid (HRT.out.kept KA.out (fun _ hh => hh.elim))
        have lX3 := OX4.out.lt
        obtain ⟨Z, HZ⟩ : ∃ Z, Hid (wk.heap.size = Z) := ⟨_, Lib.hid rfl⟩
        rw [HZ.out] at OZ ⊢
        have hXZ : X ≠ Z := by have := HZ.out; omega
        have hmZ : m ≠ Z := by have := HZ.out; omega
        clear lm fm cl c0 c1 c2 c3 c4 c5 c6 c7 c8 c9 c10
        generalize wk.alloc (.cells #[.int .i64 x.kind, .int .i64 x.src, .int .i64 x.dst, .int .i64 x.prio, .int .u64 x.msg, .int .i64 x.off, .int .i64 x.len, .int .i64 x.total, .int .i64 x.num, .slice x.da x.dn x.dc, .int .i64 x.path] TX) = w4 at *
        have lm := M5a.out.ob.lt
        have fm := (M5a.out.ob.blk).2.2
        have cl : w4.cell? ⟨m, 3 + q, none⟩ = some (.slice (some ⟨g, o, none⟩) (t.L q).length c) := by rw [M5a.out.line hq8, HV.out]
        obtain ⟨i0, hi0, hz0, hs0, hb0⟩ := info_parts info_x
        have hsl := fun w => run_slFrom (w := w) (P := Try.prog) Try.underlying57 hi0 (some ⟨g, o, none⟩) (t.L q).length c .i64 1 (by omega)
        rw [hs0] at hsl
        refine wp_heads (M := (fun _ => False)) 12 (by kernel_rfl) (by kernel_rfl) ?_
        refine hd_quiet [true, true, true, true, true, true, true, true, true, true, true, true, false] (by kernel_rfl) ?_
        simp only [pickAt]
        repeat (go_big_quiet_step (fail))
        refine wpQuiet_nil ?_
        refine hd_tail rfl (by kernel_rfl) ?_
        simp only [List.drop_succ_cons, List.drop_zero]
        go_wp2
        refine NoPanic.normal ?_
        have hr1 : (t.L q).drop 1 = rr := by rw [HXR.out]; rfl
        have RT5' := RT5.out
        have hr1' : ({ t with now := T } : Mp).L q = t.L q := rfl
        rw [hr1', hr1] at RT5'
        obtain ⟨q1, q2⟩ := M5a.out.setLineR hq8 (l' := rr) RT5'
        have M5 := Lib.hid (q1.keptF (Kept.drew _ _))
        have K6 := Lib.hid (((K4.out.trans (KA.out.mono fun _ _ h => h.elim)).trans q2).drewR)
        have OX5 := Lib.hid ((OX5a.out.other ⟨m, 3 + q, none⟩ (.slice (slAddr (some ⟨g, o, none⟩) c 1 11) ((t.L q).length - 1) (c - 1)) hXm).drew)
        have OZ5 := Lib.hid ((OZ.out.other ⟨m, 3 + q, none⟩ (.slice (slAddr (some ⟨g, o, none⟩) c 1 11) ((t.L q).length - 1) (c - 1)) (fun hh => hmZ hh.symm)).drew)
        have HNL5 := Lib.hid (fun (i : Nat) (hi : i < 8) (a : Addr) (n c' : Nat) (hv : upd U q (.slice (slAddr (some ⟨g, o, none⟩) c 1 11) ((t.L q).length - 1) (c - 1)) i = .slice (some a) n c') => show a.block ≠ X from by
          by_cases hiq : i = q
          · subst hiq
            rw [upd_same] at hv
            have h1 : slAddr (some ⟨g, o, none⟩) c 1 11 = some a := by injection hv
            obtain ⟨a0, h2, h3⟩ := slAddr_blk h1
            cases h2
            obtain ⟨cs, h4⟩ := (HM.out.lines i hq8).ty _ _ _ HV.out
            have := heap_lt h4
            have := HX.out
            rw [← h3]
            omega
          · rw [upd_other _ _ hiq] at hv
            exact HNL.out i hi a n c' hv)
        replace HNL := HNL5
        clear lm fm cl hsl hi0 hz0 hs0 hb0 q1 q2 RT5' hr1 hr1'
        generalize (w4.setCell ⟨m, 3 + q, none⟩ (.slice (slAddr (some ⟨g, o, none⟩) c 1 11) ((t.L q).length - 1) (c - 1))).drew = w5 at *
        have HEE := Lib.hid (fun j (h1 : q < j) (h2 : j < 8) => HE.out j (by have := HQ.out; omega) h2)
        obtain ⟨lz, cz, fz⟩ := OZ5.out.blk
        have cz0 : w5.cell? ⟨Z, 0, none⟩ = some (.int .i64 x.kind) := cz 0
        have cz1 : w5.cell? ⟨Z, 1, none⟩ = some (.int .i64 x.src) := cz 1
        have cz2 : w5.cell? ⟨Z, 2, none⟩ = some (.int .i64 x.dst) := cz 2
        have cz3 : w5.cell? ⟨Z, 3, none⟩ = some (.int .i64 x.prio) := cz 3
        have cz4 : w5.cell? ⟨Z, 4, none⟩ = some (.int .u64 x.msg) := cz 4
        have cz5 : w5.cell? ⟨Z, 5, none⟩ = some (.int .i64 x.off) := cz 5
        have cz6 : w5.cell? ⟨Z, 6, none⟩ = some (.int .i64 x.len) := cz 6
        have cz7 : w5.cell? ⟨Z, 7, none⟩ = some (.int .i64 x.total) := cz 7
        have cz8 : w5.cell? ⟨Z, 8, none⟩ = some (.int .i64 x.num) := cz 8
        have cz9 : w5.cell? ⟨Z, 9, none⟩ = some (.slice x.da x.dn x.dc) := cz 9
        have cz10 : w5.cell? ⟨Z, 10, none⟩ = some (.int .i64 x.path) := cz 10
        clear cz
        obtain ⟨lx, cx, fx⟩ := OX5.out.blk
        have cx0 : w5.cell? ⟨X, 0, none⟩ = some (.int .i64 0) := cx 0
        have cx1 : w5.cell? ⟨X, 1, none⟩ = some (.int .i64 0) := cx 1
        have cx2 : w5.cell? ⟨X, 2, none⟩ = some (.int .i64 0) := cx 2
        have cx3 : w5.cell? ⟨X, 3, none⟩ = some (.int .i64 0) := cx 3
        have cx4 : w5.cell? ⟨X, 4, none⟩ = some (.int .u64 0) := cx 4
        have cx5 : w5.cell? ⟨X, 5, none⟩ = some (.int .i64 0) := cx 5
        have cx6 : w5.cell? ⟨X, 6, none⟩ = some (.int .i64 0) := cx 6
        have cx7 : w5.cell? ⟨X, 7, none⟩ = some (.int .i64 0) := cx 7
        have cx8 : w5.cell? ⟨X, 8, none⟩ = some (.int .i64 0) := cx 8
        have cx9 : w5.cell? ⟨X, 9, none⟩ = some (.slice none 0 0) := cx 9
        have cx10 : w5.cell? ⟨X, 10, none⟩ = some (.int .i64 0) := cx 10
        clear cx
        go_wp2_with fail
        have hw : (((((((((((w5.setCell ⟨X, 0, none⟩ (.int .i64 x.kind)).setCell ⟨X, 1, none⟩ (.int .i64 x.src)).setCell ⟨X, 2, none⟩ (.int .i64 x.dst)).setCell ⟨X, 3, none⟩ (.int .i64 x.prio)).setCell ⟨X, 4, none⟩ (.int .u64 x.msg)).setCell ⟨X, 5, none⟩ (.int .i64 x.off)).setCell ⟨X, 6, none⟩ (.int .i64 x.len)).setCell ⟨X, 7, none⟩ (.int .i64 x.total)).setCell ⟨X, 8, none⟩ (.int .i64 x.num)).setCell ⟨X, 9, none⟩ (.slice x.da x.dn x.dc)).setCell ⟨X, 10, none⟩ (.int .i64 x.path)) = w5.setCells X 0 [.int .i64 x.kind, .int .i64 x.src, .int .i64 x.dst, .int .i64 x.prio, .int .u64 x.msg, .int .i64 x.off, .int .i64 x.len, .int .i64 x.total, .int .i64 x.num, .slice x.da x.dn x.dc, .int .i64 x.path] := rfl
        rw [hw]
        clear hw cx0 cx1 cx2 cx3 cx4 cx5 cx6 cx7 cx8 cx9 cx10 cz0 cz1 cz2 cz3 cz4 cz5 cz6 cz7 cz8 cz9 cz10 lz fz lx fx
        have OF := Lib.hid (OX5.out.sets [.int .i64 x.kind, .int .i64 x.src, .int .i64 x.dst, .int .i64 x.prio, .int .u64 x.msg, .int .i64 x.off, .int .i64 x.len, .int .i64 x.total, .int .i64 x.num, .slice x.da x.dn x.dc, .int .i64 x.path] rfl)
        have KF : Hid (Kept (Only X) w5 (w5.setCells X 0 [.int .i64 x.kind, .int .i64 x.src, .int .i64 x.dst, .int .i64 x.prio, .int .u64 x.msg, .int .i64 x.off, .int .i64 x.len, .int .i64 x.total, .int .i64 x.num, .slice x.da x.dn x.dc, .int .i64 x.path])) := Lib.hid ((Kept.refl (Only X) w5).setsO (X := X) (show X = X from rfl) _)
        have KW := Lib.hid (K6.out.setsN (X := X) (Nat.le_of_eq HX.out) [.int .i64 x.kind, .int .i64 x.src, .int .i64 x.dst, .int .i64 x.prio, .int .u64 x.msg, .int .i64 x.off, .int .i64 x.len, .int .i64 x.total, .int .i64 x.num, .slice x.da x.dn x.dc, .int .i64 x.path])
        have NX := Lib.hid (fun (v : Value) (l : List It) (hr : Rt w5 v l) (hv : ∀ a n c, v = .slice (some a) n c → a.block ≠ X) => show Rt (w5.setCells X 0 [.int .i64 x.kind, .int .i64 x.src, .int .i64 x.dst, .int .i64 x.prio, .int .u64 x.msg, .int .i64 x.off, .int .i64 x.len, .int .i64 x.total, .int .i64 x.num, .slice x.da x.dn x.dc, .int .i64 x.path]) v l from ⟨hr.rd.kept KF.out fun a n c h hh => hv a n c h hh, fun a n c h => (hr.ty a n c h).kept KF.out fun hh => hv a n c h hh⟩)
        have MF := Lib.hid (show Mo _ _ _ _ (w5.setCells X 0 [.int .i64 x.kind, .int .i64 x.src, .int .i64 x.dst, .int .i64 x.prio, .int .u64 x.msg, .int .i64 x.off, .int .i64 x.len, .int .i64 x.total, .int .i64 x.num, .slice x.da x.dn x.dc, .int .i64 x.path]) from ⟨M5.out.ob.kept KF.out (fun hh => hXm (show m = X from hh).symm), fun i hi => NX.out _ _ (M5.out.lines i hi) (HNL.out i hi), NX.out _ _ M5.out.cr HNC.out⟩)
        clear NX
        generalize w5.setCells X 0 [.int .i64 x.kind, .int .i64 x.src, .int .i64 x.dst, .int .i64 x.prio, .int .u64 x.msg, .int .i64 x.off, .int .i64 x.len, .int .i64 x.total, .int .i64 x.num, .slice x.da x.dn x.dc, .int .i64 x.path] = F at *
        obtain ⟨lf, cf, ff⟩ := OF.out.blk
        have cf0 : F.cell? ⟨X, 0, none⟩ = some (.int .i64 x.kind) := cf 0
        have cf1 : F.cell? ⟨X, 1, none⟩ = some (.int .i64 x.src) := cf 1
        have cf2 : F.cell? ⟨X, 2, none⟩ = some (.int .i64 x.dst) := cf 2
        have cf3 : F.cell? ⟨X, 3, none⟩ = some (.int .i64 x.prio) := cf 3
        have cf4 : F.cell? ⟨X, 4, none⟩ = some (.int .u64 x.msg) := cf 4
        have cf5 : F.cell? ⟨X, 5, none⟩ = some (.int .i64 x.off) := cf 5
        have cf6 : F.cell? ⟨X, 6, none⟩ = some (.int .i64 x.len) := cf 6
        have cf7 : F.cell? ⟨X, 7, none⟩ = some (.int .i64 x.total) := cf 7
        have cf8 : F.cell? ⟨X, 8, none⟩ = some (.int .i64 x.num) := cf 8
        have cf9 : F.cell? ⟨X, 9, none⟩ = some (.slice x.da x.dn x.dc) := cf 9
        have cf10 : F.cell? ⟨X, 10, none⟩ = some (.int .i64 x.path) := cf 10
        clear cf
        refine done (.tuple #[boxV x, .bool true]) rfl (by simp [boxV, results, Try.results20, go_sem, cf0, cf1, cf2, cf3, cf4, cf5, cf6, cf7, cf8, cf9, cf10]) (.inr ⟨q, x, rr, hq8, HXR.out, HEE.out, rfl, _, _, MF.out, KW.out⟩)

    · obtain rfl : r = 8 := by omega
      rw [show (7 : Int) - ((8 : Nat) : Int) = -1 from rfl]
      obtain ⟨lx, cx, fx⟩ := OX4.out.blk
      have cx0 : wk.cell? ⟨X, 0, none⟩ = some (.int .i64 0) := cx 0
      have cx1 : wk.cell? ⟨X, 1, none⟩ = some (.int .i64 0) := cx 1
      have cx2 : wk.cell? ⟨X, 2, none⟩ = some (.int .i64 0) := cx 2
      have cx3 : wk.cell? ⟨X, 3, none⟩ = some (.int .i64 0) := cx 3
      have cx4 : wk.cell? ⟨X, 4, none⟩ = some (.int .u64 0) := cx 4
      have cx5 : wk.cell? ⟨X, 5, none⟩ = some (.int .i64 0) := cx 5
      have cx6 : wk.cell? ⟨X, 6, none⟩ = some (.int .i64 0) := cx 6
      have cx7 : wk.cell? ⟨X, 7, none⟩ = some (.int .i64 0) := cx 7
      have cx8 : wk.cell? ⟨X, 8, none⟩ = some (.int .i64 0) := cx 8
      have cx9 : wk.cell? ⟨X, 9, none⟩ = some (.slice none 0 0) := cx 9
      have cx10 : wk.cell? ⟨X, 10, none⟩ = some (.int .i64 0) := cx 10
      clear cx
      go_wp2_with fail
      have hw : (((((((((((wk.setCell ⟨X, 0, none⟩ (.int .i64 0)).setCell ⟨X, 1, none⟩ (.int .i64 0)).setCell ⟨X, 2, none⟩ (.int .i64 0)).setCell ⟨X, 3, none⟩ (.int .i64 0)).setCell ⟨X, 4, none⟩ (.int .u64 0)).setCell ⟨X, 5, none⟩ (.int .i64 0)).setCell ⟨X, 6, none⟩ (.int .i64 0)).setCell ⟨X, 7, none⟩ (.int .i64 0)).setCell ⟨X, 8, none⟩ (.int .i64 0)).setCell ⟨X, 9, none⟩ (.slice none 0 0)).setCell ⟨X, 10, none⟩ (.int .i64 0)) = wk.setCells X 0 [.int .i64 0, .int .i64 0, .int .i64 0, .int .i64 0, .int .u64 0, .int .i64 0, .int .i64 0, .int .i64 0, .int .i64 0, .slice none 0 0, .int .i64 0] := rfl
      rw [hw]
      clear hw cx0 cx1 cx2 cx3 cx4 cx5 cx6 cx7 cx8 cx9 cx10 lx fx
      have OF := Lib.hid (OX4.out.sets [.int .i64 0, .int .i64 0, .int .i64 0, .int .i64 0, .int .u64 0, .int .i64 0, .int .i64 0, .int .i64 0, .int .i64 0, .slice none 0 0, .int .i64 0] rfl)
      have KF : Hid (Kept (Only X) wk (wk.setCells X 0 [.int .i64 0, .int .i64 0, .int .i64 0, .int .i64 0, .int .u64 0, .int .i64 0, .int .i64 0, .int .i64 0, .int .i64 0, .slice none 0 0, .int .i64 0])) := Lib.hid ((Kept.refl (Only X) wk).setsO (X := X) (show X = X from rfl) _)
      have KW := Lib.hid (K4.out.setsN (X := X) (Nat.le_of_eq HX.out) [.int .i64 0, .int .i64 0, .int .i64 0, .int .i64 0, .int .u64 0, .int .i64 0, .int .i64 0, .int .i64 0, .int .i64 0, .slice none 0 0, .int .i64 0])
      have NX := Lib.hid (fun (v : Value) (l : List It) (hr : Rt wk v l) (hv : ∀ a n c, v = .slice (some a) n c → a.block ≠ X) => show Rt (wk.setCells X 0 [.int .i64 0, .int .i64 0, .int .i64 0, .int .i64 0, .int .u64 0, .int .i64 0, .int .i64 0, .int .i64 0, .int .i64 0, .slice none 0 0, .int .i64 0]) v l from ⟨hr.rd.kept KF.out fun a n c h hh => hv a n c h hh, fun a n c h => (hr.ty a n c h).kept KF.out fun hh => hv a n c h hh⟩)
      have MF := Lib.hid (show Mo m U uc { t with now := T } (wk.setCells X 0 [.int .i64 0, .int .i64 0, .int .i64 0, .int .i64 0, .int .u64 0, .int .i64 0, .int .i64 0, .int .i64 0, .int .i64 0, .slice none 0 0, .int .i64 0]) from ⟨M4.out.ob.kept KF.out (fun hh => hXm (show m = X from hh).symm), fun i hi => NX.out _ _ (M4.out.lines i hi) (HNL.out i hi), NX.out _ _ M4.out.cr HNC.out⟩)
      clear NX
      generalize wk.setCells X 0 [.int .i64 0, .int .i64 0, .int .i64 0, .int .i64 0, .int .u64 0, .int .i64 0, .int .i64 0, .int .i64 0, .int .i64 0, .slice none 0 0, .int .i64 0] = F at *
      obtain ⟨lf, cf, ff⟩ := OF.out.blk
      have cf0 : F.cell? ⟨X, 0, none⟩ = some (.int .i64 0) := cf 0
      have cf1 : F.cell? ⟨X, 1, none⟩ = some (.int .i64 0) := cf 1
      have cf2 : F.cell? ⟨X, 2, none⟩ = some (.int .i64 0) := cf 2
      have cf3 : F.cell? ⟨X, 3, none⟩ = some (.int .i64 0) := cf 3
      have cf4 : F.cell? ⟨X, 4, none⟩ = some (.int .u64 0) := cf 4
      have cf5 : F.cell? ⟨X, 5, none⟩ = some (.int .i64 0) := cf 5
      have cf6 : F.cell? ⟨X, 6, none⟩ = some (.int .i64 0) := cf 6
      have cf7 : F.cell? ⟨X, 7, none⟩ = some (.int .i64 0) := cf 7
      have cf8 : F.cell? ⟨X, 8, none⟩ = some (.int .i64 0) := cf 8
      have cf9 : F.cell? ⟨X, 9, none⟩ = some (.slice none 0 0) := cf 9
      have cf10 : F.cell? ⟨X, 10, none⟩ = some (.int .i64 0) := cf 10
      clear cf
      exact done (.tuple #[noBox, .bool false]) rfl (by simp [noBox, results, Try.results20, go_sem, cf0, cf1, cf2, cf3, cf4, cf5, cf6, cf7, cf8, cf9, cf10]) (.inl ⟨rfl, fun i hi => HE.out i (by omega) hi, _, _, MF.out, KW.out⟩)
end Go.Proofs.Ythgkminjhpaakaa
