/- The document's port (chapter 13): Take of a line. -/
import Derived.Test.YtoihhidoafgoaaaME
import Derived.Test.YtoihhidoafgoaaaMD
import Derived.Test.YtoihhidoafgoaaaMC
namespace Go.Proofs.Ytoihhidoafgoaaa
open Go.RowKit

theorem Mo.setLineR {m : Nat} {U : Nat → Value} {uc : Value} {t : Mp} {w : World} (h : Mo m U uc t w) {q : Nat} (hq : q < 8) {v' : Value} {l' : List It} (hr : Rt w v' l') : Mo m (upd U q v') uc { t with L := upd t.L q l' } (w.setCell ⟨m, 3 + q, none⟩ v') ∧ Kept (Only m) w (w.setCell ⟨m, 3 + q, none⟩ v') := by
  have hkb : Kept (Only m) w (w.setCell ⟨m, 3 + q, none⟩ v') := (Kept.refl _ _).setO
  refine ⟨⟨?_, fun i hi => ?_, h.row hkb h.cr⟩, hkb⟩
  · exact Ob.cast (h.ob.set (3 + q) v') (m_set U uc t q hq v')
  · by_cases hiq : i = q
    · subst hiq
      rw [upd_same]
      show Rt _ v' (upd t.L i l' i)
      rw [upd_same]
      exact h.row hkb hr
    · rw [upd_other _ _ hiq]
      show Rt _ (U i) (upd t.L q l' i)
      rw [upd_other _ _ hiq]
      exact h.row hkb (h.lines i hi)
def MTakeQ (m : Nat) (t : Mp) (T : Int) (w : World) (e : Ending) (w' : World) : Prop :=
  (e = .returned (.tuple #[noBox, .bool false]) ∧ (∀ i, i < 8 → t.L i = []) ∧ MoPost m { t with now := T } w w') ∨
    ∃ (i : Nat) (x : It) (r : List It), i < 8 ∧ t.L i = x :: r ∧ (∀ j, i < j → j < 8 → t.L j = []) ∧ e = .returned (.tuple #[boxV x, .bool true]) ∧ MoPost m { t with now := T, L := upd t.L i r } w w'
set_option maxRecDepth 100000 in
set_option maxHeartbeats 4000000 in
theorem mtake_line (m : Nat) (U : Nat → Value) (uc : Value) (t : Mp) (N : Nat) (now T : Int) (w : World) (h : Mo m U uc t w) (ho : t.ok N) (hT : max t.now (min now 1125899906842624) = T) (hd : t.C.length = 0 ∨ (0 < t.C.length ∧ t.ever = true ∧ T - t.last < 4)) (hb : 0 ≤ T ∧ T ≤ 1125899906842624 ∧ 0 ≤ t.last ∧ t.last ≤ 1125899906842624) : Calls Try.prog 53 #[.pointer (some ⟨m, 0, none⟩), .int .i64 now] w (MTakeQ m t T w) := by
  have HO := Lib.hid ho
  have HD := Lib.hid hd
  clear hd ho
  have HM := Lib.hid h
  have HT := Lib.hid hT
  clear h hT
  go_enter Try.func53, Try.ntmps53
  go_upto_region 1 with fail
  have OX := Lib.hid (Ob.new w #[.int .i64 0, .int .i64 0, .int .i64 0, .int .i64 0, .int .u64 0, .int .i64 0, .int .i64 0, .int .i64 0, .int .i64 0, .slice none 0 0, .int .i64 0] TX)
  have HB := Lib.hid ((Below.refl w.heap.size w).alloc (Nat.le_refl _) (.cells #[.int .i64 0, .int .i64 0, .int .i64 0, .int .i64 0, .int .u64 0, .int .i64 0, .int .i64 0, .int .i64 0, .int .i64 0, .slice none 0 0, .int .i64 0] TX))
  have M1 := Lib.hid (HM.out.below HB.out)
  generalize w.alloc (.cells #[.int .i64 0, .int .i64 0, .int .i64 0, .int .i64 0, .int .u64 0, .int .i64 0, .int .i64 0, .int .i64 0, .int .i64 0, .slice none 0 0, .int .i64 0] TX) = w1 at *
  obtain ⟨X, HX⟩ : ∃ X, Hid (w.heap.size = X) := ⟨_, Lib.hid rfl⟩
  rw [HX.out] at OX ⊢
  have hXm : X ≠ m := fun hh => absurd (Ty.one (by rw [hh] at OX; exact OX.out.ty) M1.out.ob.ty) (by decide)
  have lm := M1.out.ob.lt
  have fm := (M1.out.ob.blk).2.2
  have cm12 : w1.cell? ⟨m, 12, none⟩ = some (.int .i64 t.now) := (M1.out.ob.blk).2.1 12
  go_upto_region 2 with fail
  rw [HT.out]
  have M2 := Lib.hid (M1.out.cell12 T)
  have OX2 := Lib.hid (OX.out.other ⟨m, 12, none⟩ (.int .i64 T) hXm)
  have K2 := Lib.hid ((Kept.of_below (M := Only m) HB.out).trans (Kept.setO (b := m) (i := 12) (v := .int .i64 T) (Kept.refl _ _)))
  clear lm fm cm12
  generalize w1.setCell ⟨m, 12, none⟩ (.int .i64 T) = w2 at *
  have lm := M2.out.ob.lt
  have cm12 : w2.cell? ⟨m, 12, none⟩ = some (.int .i64 T) := (M2.out.ob.blk).2.1 12
  have cm13 : w2.cell? ⟨m, 13, none⟩ = some (.int .i64 t.last) := (M2.out.ob.blk).2.1 13
  have cm14 : w2.cell? ⟨m, 14, none⟩ = some (.bool t.ever) := (M2.out.ob.blk).2.1 14
  obtain ⟨a, c, hv, hlc, hcm⟩ := M2.out.cr.form
  have HV := Lib.hid hv
  have cl : w2.cell? ⟨m, 11, none⟩ = some (.slice a t.C.length c) := by rw [← hv]; exact (M2.out.ob.blk).2.1 11
  clear hv
  go_cut [43] from 19 (fun s wx => s = .bool false ∧ Mo m U uc { t with now := T } wx ∧ Ob wx X #[.int .i64 0, .int .i64 0, .int .i64 0, .int .i64 0, .int .u64 0, .int .i64 0, .int .i64 0, .int .i64 0, .int .i64 0, .slice none 0 0, .int .i64 0] TX ∧ Kept (Only m) w wx)
  case first =>
    rcases HD.out with he | ⟨h0, he, hd⟩
    · rw [he] at cl
      refine wp_region_quiet_lit (by kernel_rfl) (by kernel_rfl) ?_
      try simp only [List.append]
      repeat (first | go_big_quiet_step (fail) | quiet_step (fail))
      refine wpQuiet_nil ?_
      intro W hW
      have MW : Hid (Mo m U uc { t with now := T } W) := by obtain ⟨n, rfl⟩ := hW; exact Lib.hid (M2.out.keptF (Kept.dn _ _ _))
      have OW : Hid (Ob W X #[.int .i64 0, .int .i64 0, .int .i64 0, .int .i64 0, .int .u64 0, .int .i64 0, .int .i64 0, .int .i64 0, .int .i64 0, .slice none 0 0, .int .i64 0] TX) := by obtain ⟨n, rfl⟩ := hW; exact Lib.hid OX2.out.dn
      have KW : Hid (Kept (Only m) w W) := by obtain ⟨n, rfl⟩ := hW; exact Lib.hid (K2.out.dnR n)
      clear hW
      go_wp2_with fail
      go_meet
      exact ⟨rfl, MW.out, OW.out, KW.out⟩
    · rw [he] at cm14
      refine wp_region_quiet_lit (by kernel_rfl) (by kernel_rfl) ?_
      try simp only [List.append]
      repeat (first | go_big_quiet_step (fail) | quiet_step (fail))
      refine wpQuiet_nil ?_
      intro W hW
      have MW : Hid (Mo m U uc { t with now := T } W) := by obtain ⟨n, rfl⟩ := hW; exact Lib.hid (M2.out.keptF (Kept.dn _ _ _))
      have OW : Hid (Ob W X #[.int .i64 0, .int .i64 0, .int .i64 0, .int .i64 0, .int .u64 0, .int .i64 0, .int .i64 0, .int .i64 0, .int .i64 0, .slice none 0 0, .int .i64 0] TX) := by obtain ⟨n, rfl⟩ := hW; exact Lib.hid OX2.out.dn
      have KW : Hid (Kept (Only m) w W) := by obtain ⟨n, rfl⟩ := hW; exact Lib.hid (K2.out.dnR n)
      clear hW
      go_wp2_with fail
      go_meet
      exact ⟨by rw [decide_eq_false (by omega)], MW.out, OW.out, KW.out⟩
  case rest =>
  obtain ⟨rfl, hm3, ho3, hk3⟩ := hcut
  have M3 := Lib.hid hm3
  have OX3 := Lib.hid ho3
  have K3 := Lib.hid hk3
  clear hm3 ho3 hk3 lm cm12 cm13 cm14 cl
  rename World => w3
  have HNL := Lib.hid (fun (i : Nat) (hi : i < 8) (a : Addr) (n c : Nat) (hv : U i = .slice (some a) n c) => show a.block ≠ X from by
    obtain ⟨cs, h2⟩ := (HM.out.lines i hi).ty a n c hv
    have := heap_lt h2
    have := HX.out
    omega)
  have HNC := Lib.hid (fun (a : Addr) (n c' : Nat) (hv : uc = .slice (some a) n c') => show a.block ≠ X from by
    obtain ⟨cs, h4⟩ := HM.out.cr.ty _ _ _ hv
    have := heap_lt h4
    have := HX.out
    omega)
  go_wp2_with fail
  go_loopw [5, 7, 8] (fun _ k _ wr => ∃ r : Nat, r ≤ 8 ∧ k = .int .i64 (7 - r) ∧ Hid (∀ j, 7 < j + r → j < 8 → t.L j = []) ∧ Mo m U uc { t with now := T } wr ∧ Ob wr X #[.int .i64 0, .int .i64 0, .int .i64 0, .int .i64 0, .int .u64 0, .int .i64 0, .int .i64 0, .int .i64 0, .int .i64 0, .slice none 0 0, .int .i64 0] TX ∧ Kept (Only m) w wr) (fun _ k _ _ => (intOf k + 1).toNat)
  case atStart => exact ⟨0, by omega, rfl, Lib.hid (fun j h1 h2 => by omega), M3.out, OX3.out, K3.out⟩
  case round =>
    obtain ⟨r, hr, rfl, HE, hm4, ho4, hk4⟩ := hrel
    have M4 := Lib.hid hm4
    have OX4 := Lib.hid ho4
    have K4 := Lib.hid hk4
    clear hm4 ho4 hk4
    rename World => wk
    have lm := M4.out.ob.lt
    have fm := (M4.out.ob.blk).2.2
    by_cases h8 : r < 8
    · obtain ⟨q, hq⟩ : ∃ q : Nat, q = 7 - r := ⟨_, rfl⟩
      have hq8 : q < 8 := by omega
      have hqi : (7 : Int) - r = q := by omega
      have hlq := HO.out.len q hq8
      have HQ := Lib.hid hq
      have HQI := Lib.hid hqi
      rw [hqi]
      clear hq hqi
      obtain ⟨a, c, hv, hlc, hcm⟩ := (M4.out.lines q hq8).form
      have cl : wk.cell? ⟨m, 3 + q, none⟩ = some (.slice a (t.L q).length c) := by rw [M4.out.line hq8, hv]
      have HV := Lib.hid hv
      clear hv
      rcases Nat.eq_zero_or_pos (t.L q).length with hz | hz
      · have HZ0 := Lib.hid (List.eq_nil_of_length_eq_zero hz)
        rw [hz] at cl
        clear hz
        go_wp2_with fail
        go_roundw
        case rel =>
          refine ⟨r + 1, by omega, by have := HQI.out; congr 1; push_cast; omega, Lib.hid (fun j h1 h2 => ?_), M4.out, OX4.out, K4.out⟩
          by_cases hj : j = q
          · rw [hj]; exact HZ0.out
          · exact HE.out j (by have := HQ.out; omega) h2
        case measure => simp [intOf]
      · obtain ⟨x, rr, hxr⟩ : ∃ x r, t.L q = x :: r := List.exists_cons_of_ne_nil (by intro hh; rw [hh] at hz; cases hz)
        have HXR := Lib.hid hxr
        have hrd := M4.out.lines q hq8
        rw [HV.out] at hrd
        obtain ⟨g, o, hgo, hg, hc⟩ := hrd.rd.row rowIt (by decide) 0 hz
        cases hgo
        have hx0 : (t.L q)[0] = x := by simp [hxr]
        have hc2 : ∀ j u, (x.row)[j]? = some u → wk.cell? ⟨g, o + 0 * 11 + j, none⟩ = some u := fun j u hj => hc j u (by
          show (It.row ((t.L q)[0]))[j]? = some u
          rw [hx0]; exact hj)
        have c0 : wk.cell? ⟨g, o, none⟩ = some (.int .i64 x.kind) := hc2 0 _ rfl
        have c1 : wk.cell? ⟨g, o + 1, none⟩ = some (.int .i64 x.src) := hc2 1 _ rfl
        have c2 : wk.cell? ⟨g, o + 2, none⟩ = some (.int .i64 x.dst) := hc2 2 _ rfl
        have c3 : wk.cell? ⟨g, o + 3, none⟩ = some (.int .i64 x.prio) := hc2 3 _ rfl
        have c4 : wk.cell? ⟨g, o + 4, none⟩ = some (.int .u64 x.msg) := hc2 4 _ rfl
        have c5 : wk.cell? ⟨g, o + 5, none⟩ = some (.int .i64 x.off) := hc2 5 _ rfl
        have c6 : wk.cell? ⟨g, o + 6, none⟩ = some (.int .i64 x.len) := hc2 6 _ rfl
        have c7 : wk.cell? ⟨g, o + 7, none⟩ = some (.int .i64 x.total) := hc2 7 _ rfl
        have c8 : wk.cell? ⟨g, o + 8, none⟩ = some (.int .i64 x.num) := hc2 8 _ rfl
        have c9 : wk.cell? ⟨g, o + 9, none⟩ = some (.slice x.da x.dn x.dc) := hc2 9 _ rfl
        have c10 : wk.cell? ⟨g, o + 10, none⟩ = some (.int .i64 x.path) := hc2 10 _ rfl
        have HRT := Lib.hid (hrd.tail 1 hz)
        clear hc hc2 hrd hx0 hxr
        go_upto_region 13 with fail
        have OZ := Lib.hid (Ob.new wk #[.int .i64 x.kind, .int .i64 x.src, .int .i64 x.dst, .int .i64 x.prio, .int .u64 x.msg, .int .i64 x.off, .int .i64 x.len, .int .i64 x.total, .int .i64 x.num, .slice x.da x.dn x.dc, .int .i64 x.path] TX)
        have KA : Hid (Kept (fun _ => False) wk (wk.alloc (.cells #[.int .i64 x.kind, .int .i64 x.src, .int .i64 x.dst, .int .i64 x.prio, .int .u64 x.msg, .int .i64 x.off, .int .i64 x.len, .int .i64 x.total, .int .i64 x.num, .slice x.da x.dn x.dc, .int .i64 x.path] TX))) := Lib.hid ((Kept.refl _ _).alloc _)
        have M5a := Lib.hid (M4.out.keptF KA.out)
        have OX5a := Lib.hid (OX4.out.kept KA.out (fun h => h))
        have RT5 := Lib.hid (HRT.out.kept KA.out (fun _ hh => hh.elim))
        have lX3 := OX4.out.lt
        obtain ⟨Z, HZ⟩ : ∃ Z, Hid (wk.heap.size = Z) := ⟨_, Lib.hid rfl⟩
        rw [HZ.out] at OZ ⊢
        have hXZ : X ≠ Z := by have := HZ.out; omega
        have hmZ : m ≠ Z := by have := HZ.out; omega
        clear lm fm cl c0 c1 c2 c3 c4 c5 c6 c7 c8 c9 c10
        generalize wk.alloc (.cells #[.int .i64 x.kind, .int .i64 x.src, .int .i64 x.dst, .int .i64 x.prio, .int .u64 x.msg, .int .i64 x.off, .int .i64 x.len, .int .i64 x.total, .int .i64 x.num, .slice x.da x.dn x.dc, .int .i64 x.path] TX) = w4 at *
        have lm := M5a.out.ob.lt
        have fm := (M5a.out.ob.blk).2.2
        have cl : w4.cell? ⟨m, 3 + q, none⟩ = some (.slice (some ⟨g, o, none⟩) (t.L q).length c) := by rw [M5a.out.line hq8, HV.out]
        obtain ⟨i0, hi0, hz0, hs0, hb0⟩ := info_parts info_x
        have hsl := fun w => run_slFrom (w := w) (P := Try.prog) Try.underlying103 hi0 (some ⟨g, o, none⟩) (t.L q).length c .i64 1 (by omega)
        rw [hs0] at hsl
        refine wp_heads (M := (fun _ => False)) 12 (by kernel_rfl) (by kernel_rfl) ?_
        refine hd_quiet [true, true, true, true, true, true, true, true, true, true, true, true, false] (by kernel_rfl) ?_
        simp only [pickAt]
        repeat (go_big_quiet_step (fail))
        refine wpQuiet_nil ?_
        refine hd_tail rfl (by kernel_rfl) ?_
        simp only [List.drop_succ_cons, List.drop_zero]
        go_wp2
        refine NoPanic.normal ?_
        have hr1 : (t.L q).drop 1 = rr := by rw [HXR.out]; rfl
        have RT5' := RT5.out
        have hr1' : ({ t with now := T } : Mp).L q = t.L q := rfl
        rw [hr1', hr1] at RT5'
        obtain ⟨q1, q2⟩ := M5a.out.setLineR hq8 (l' := rr) RT5'
        have M5 := Lib.hid (q1.keptF (Kept.drew _ _))
        have K6 := Lib.hid (((K4.out.trans (KA.out.mono fun _ _ h => h.elim)).trans q2).drewR)
        have OX5 := Lib.hid ((OX5a.out.other ⟨m, 3 + q, none⟩ (.slice (slAddr (some ⟨g, o, none⟩) c 1 11) ((t.L q).length - 1) (c - 1)) hXm).drew)
        have OZ5 := Lib.hid ((OZ.out.other ⟨m, 3 + q, none⟩ (.slice (slAddr (some ⟨g, o, none⟩) c 1 11) ((t.L q).length - 1) (c - 1)) (fun hh => hmZ hh.symm)).drew)
        have HNL5 := Lib.hid (fun (i : Nat) (hi : i < 8) (a : Addr) (n c' : Nat) (hv : upd U q (.slice (slAddr (some ⟨g, o, none⟩) c 1 11) ((t.L q).length - 1) (c - 1)) i = .slice (some a) n c') => show a.block ≠ X from by
          by_cases hiq : i = q
          · subst hiq
            rw [upd_same] at hv
            have h1 : slAddr (some ⟨g, o, none⟩) c 1 11 = some a := by injection hv
            obtain ⟨a0, h2, h3⟩ := slAddr_blk h1
            cases h2
            obtain ⟨cs, h4⟩ := (HM.out.lines i hq8).ty _ _ _ HV.out
            have := heap_lt h4
            have := HX.out
            rw [← h3]
            omega
          · rw [upd_other _ _ hiq] at hv
            exact HNL.out i hi a n c' hv)
        replace HNL := HNL5
        clear lm fm cl hsl hi0 hz0 hs0 hb0 q1 q2 RT5' hr1 hr1'
        generalize (w4.setCell ⟨m, 3 + q, none⟩ (.slice (slAddr (some ⟨g, o, none⟩) c 1 11) ((t.L q).length - 1) (c - 1))).drew = w5 at *
        have HEE := Lib.hid (fun j (h1 : q < j) (h2 : j < 8) => HE.out j (by have := HQ.out; omega) h2)
        obtain ⟨lz, cz, fz⟩ := OZ5.out.blk
        have cz0 : w5.cell? ⟨Z, 0, none⟩ = some (.int .i64 x.kind) := cz 0
        have cz1 : w5.cell? ⟨Z, 1, none⟩ = some (.int .i64 x.src) := cz 1
        have cz2 : w5.cell? ⟨Z, 2, none⟩ = some (.int .i64 x.dst) := cz 2
        have cz3 : w5.cell? ⟨Z, 3, none⟩ = some (.int .i64 x.prio) := cz 3
        have cz4 : w5.cell? ⟨Z, 4, none⟩ = some (.int .u64 x.msg) := cz 4
        have cz5 : w5.cell? ⟨Z, 5, none⟩ = some (.int .i64 x.off) := cz 5
        have cz6 : w5.cell? ⟨Z, 6, none⟩ = some (.int .i64 x.len) := cz 6
        have cz7 : w5.cell? ⟨Z, 7, none⟩ = some (.int .i64 x.total) := cz 7
        have cz8 : w5.cell? ⟨Z, 8, none⟩ = some (.int .i64 x.num) := cz 8
        have cz9 : w5.cell? ⟨Z, 9, none⟩ = some (.slice x.da x.dn x.dc) := cz 9
        have cz10 : w5.cell? ⟨Z, 10, none⟩ = some (.int .i64 x.path) := cz 10
        clear cz
        obtain ⟨lx, cx, fx⟩ := OX5.out.blk
        have cx0 : w5.cell? ⟨X, 0, none⟩ = some (.int .i64 0) := cx 0
        have cx1 : w5.cell? ⟨X, 1, none⟩ = some (.int .i64 0) := cx 1
        have cx2 : w5.cell? ⟨X, 2, none⟩ = some (.int .i64 0) := cx 2
        have cx3 : w5.cell? ⟨X, 3, none⟩ = some (.int .i64 0) := cx 3
        have cx4 : w5.cell? ⟨X, 4, none⟩ = some (.int .u64 0) := cx 4
        have cx5 : w5.cell? ⟨X, 5, none⟩ = some (.int .i64 0) := cx 5
        have cx6 : w5.cell? ⟨X, 6, none⟩ = some (.int .i64 0) := cx 6
        have cx7 : w5.cell? ⟨X, 7, none⟩ = some (.int .i64 0) := cx 7
        have cx8 : w5.cell? ⟨X, 8, none⟩ = some (.int .i64 0) := cx 8
        have cx9 : w5.cell? ⟨X, 9, none⟩ = some (.slice none 0 0) := cx 9
        have cx10 : w5.cell? ⟨X, 10, none⟩ = some (.int .i64 0) := cx 10
        clear cx
        go_wp2_with fail
        have hw : (((((((((((w5.setCell ⟨X, 0, none⟩ (.int .i64 x.kind)).setCell ⟨X, 1, none⟩ (.int .i64 x.src)).setCell ⟨X, 2, none⟩ (.int .i64 x.dst)).setCell ⟨X, 3, none⟩ (.int .i64 x.prio)).setCell ⟨X, 4, none⟩ (.int .u64 x.msg)).setCell ⟨X, 5, none⟩ (.int .i64 x.off)).setCell ⟨X, 6, none⟩ (.int .i64 x.len)).setCell ⟨X, 7, none⟩ (.int .i64 x.total)).setCell ⟨X, 8, none⟩ (.int .i64 x.num)).setCell ⟨X, 9, none⟩ (.slice x.da x.dn x.dc)).setCell ⟨X, 10, none⟩ (.int .i64 x.path)) = w5.setCells X 0 [.int .i64 x.kind, .int .i64 x.src, .int .i64 x.dst, .int .i64 x.prio, .int .u64 x.msg, .int .i64 x.off, .int .i64 x.len, .int .i64 x.total, .int .i64 x.num, .slice x.da x.dn x.dc, .int .i64 x.path] := rfl
        rw [hw]
        clear hw cx0 cx1 cx2 cx3 cx4 cx5 cx6 cx7 cx8 cx9 cx10 cz0 cz1 cz2 cz3 cz4 cz5 cz6 cz7 cz8 cz9 cz10 lz fz lx fx
        have OF := Lib.hid (OX5.out.sets [.int .i64 x.kind, .int .i64 x.src, .int .i64 x.dst, .int .i64 x.prio, .int .u64 x.msg, .int .i64 x.off, .int .i64 x.len, .int .i64 x.total, .int .i64 x.num, .slice x.da x.dn x.dc, .int .i64 x.path] rfl)
        have KF : Hid (Kept (Only X) w5 (w5.setCells X 0 [.int .i64 x.kind, .int .i64 x.src, .int .i64 x.dst, .int .i64 x.prio, .int .u64 x.msg, .int .i64 x.off, .int .i64 x.len, .int .i64 x.total, .int .i64 x.num, .slice x.da x.dn x.dc, .int .i64 x.path])) := Lib.hid ((Kept.refl (Only X) w5).setsO (X := X) (show X = X from rfl) _)
        have KW := Lib.hid (K6.out.setsN (X := X) (Nat.le_of_eq HX.out) [.int .i64 x.kind, .int .i64 x.src, .int .i64 x.dst, .int .i64 x.prio, .int .u64 x.msg, .int .i64 x.off, .int .i64 x.len, .int .i64 x.total, .int .i64 x.num, .slice x.da x.dn x.dc, .int .i64 x.path])
        have NX := Lib.hid (fun (v : Value) (l : List It) (hr : Rt w5 v l) (hv : ∀ a n c, v = .slice (some a) n c → a.block ≠ X) => show Rt (w5.setCells X 0 [.int .i64 x.kind, .int .i64 x.src, .int .i64 x.dst, .int .i64 x.prio, .int .u64 x.msg, .int .i64 x.off, .int .i64 x.len, .int .i64 x.total, .int .i64 x.num, .slice x.da x.dn x.dc, .int .i64 x.path]) v l from ⟨hr.rd.kept KF.out fun a n c h hh => hv a n c h hh, fun a n c h => (hr.ty a n c h).kept KF.out fun hh => hv a n c h hh⟩)
        have MF := Lib.hid (show Mo _ _ _ _ (w5.setCells X 0 [.int .i64 x.kind, .int .i64 x.src, .int .i64 x.dst, .int .i64 x.prio, .int .u64 x.msg, .int .i64 x.off, .int .i64 x.len, .int .i64 x.total, .int .i64 x.num, .slice x.da x.dn x.dc, .int .i64 x.path]) from ⟨M5.out.ob.kept KF.out (fun hh => hXm (show m = X from hh).symm), fun i hi => NX.out _ _ (M5.out.lines i hi) (HNL.out i hi), NX.out _ _ M5.out.cr HNC.out⟩)
        clear NX
        generalize w5.setCells X 0 [.int .i64 x.kind, .int .i64 x.src, .int .i64 x.dst, .int .i64 x.prio, .int .u64 x.msg, .int .i64 x.off, .int .i64 x.len, .int .i64 x.total, .int .i64 x.num, .slice x.da x.dn x.dc, .int .i64 x.path] = F at *
        obtain ⟨lf, cf, ff⟩ := OF.out.blk
        have cf0 : F.cell? ⟨X, 0, none⟩ = some (.int .i64 x.kind) := cf 0
        have cf1 : F.cell? ⟨X, 1, none⟩ = some (.int .i64 x.src) := cf 1
        have cf2 : F.cell? ⟨X, 2, none⟩ = some (.int .i64 x.dst) := cf 2
        have cf3 : F.cell? ⟨X, 3, none⟩ = some (.int .i64 x.prio) := cf 3
        have cf4 : F.cell? ⟨X, 4, none⟩ = some (.int .u64 x.msg) := cf 4
        have cf5 : F.cell? ⟨X, 5, none⟩ = some (.int .i64 x.off) := cf 5
        have cf6 : F.cell? ⟨X, 6, none⟩ = some (.int .i64 x.len) := cf 6
        have cf7 : F.cell? ⟨X, 7, none⟩ = some (.int .i64 x.total) := cf 7
        have cf8 : F.cell? ⟨X, 8, none⟩ = some (.int .i64 x.num) := cf 8
        have cf9 : F.cell? ⟨X, 9, none⟩ = some (.slice x.da x.dn x.dc) := cf 9
        have cf10 : F.cell? ⟨X, 10, none⟩ = some (.int .i64 x.path) := cf 10
        clear cf
        refine done (.tuple #[boxV x, .bool true]) rfl (by simp [boxV, results, Try.results53, go_sem, cf0, cf1, cf2, cf3, cf4, cf5, cf6, cf7, cf8, cf9, cf10]) (.inr ⟨q, x, rr, hq8, HXR.out, HEE.out, rfl, _, _, MF.out, KW.out⟩)

    · obtain rfl : r = 8 := by omega
      rw [show (7 : Int) - ((8 : Nat) : Int) = -1 from rfl]
      obtain ⟨lx, cx, fx⟩ := OX4.out.blk
      have cx0 : wk.cell? ⟨X, 0, none⟩ = some (.int .i64 0) := cx 0
      have cx1 : wk.cell? ⟨X, 1, none⟩ = some (.int .i64 0) := cx 1
      have cx2 : wk.cell? ⟨X, 2, none⟩ = some (.int .i64 0) := cx 2
      have cx3 : wk.cell? ⟨X, 3, none⟩ = some (.int .i64 0) := cx 3
      have cx4 : wk.cell? ⟨X, 4, none⟩ = some (.int .u64 0) := cx 4
      have cx5 : wk.cell? ⟨X, 5, none⟩ = some (.int .i64 0) := cx 5
      have cx6 : wk.cell? ⟨X, 6, none⟩ = some (.int .i64 0) := cx 6
      have cx7 : wk.cell? ⟨X, 7, none⟩ = some (.int .i64 0) := cx 7
      have cx8 : wk.cell? ⟨X, 8, none⟩ = some (.int .i64 0) := cx 8
      have cx9 : wk.cell? ⟨X, 9, none⟩ = some (.slice none 0 0) := cx 9
      have cx10 : wk.cell? ⟨X, 10, none⟩ = some (.int .i64 0) := cx 10
      clear cx
      go_wp2_with fail
      have hw : (((((((((((wk.setCell ⟨X, 0, none⟩ (.int .i64 0)).setCell ⟨X, 1, none⟩ (.int .i64 0)).setCell ⟨X, 2, none⟩ (.int .i64 0)).setCell ⟨X, 3, none⟩ (.int .i64 0)).setCell ⟨X, 4, none⟩ (.int .u64 0)).setCell ⟨X, 5, none⟩ (.int .i64 0)).setCell ⟨X, 6, none⟩ (.int .i64 0)).setCell ⟨X, 7, none⟩ (.int .i64 0)).setCell ⟨X, 8, none⟩ (.int .i64 0)).setCell ⟨X, 9, none⟩ (.slice none 0 0)).setCell ⟨X, 10, none⟩ (.int .i64 0)) = wk.setCells X 0 [.int .i64 0, .int .i64 0, .int .i64 0, .int .i64 0, .int .u64 0, .int .i64 0, .int .i64 0, .int .i64 0, .int .i64 0, .slice none 0 0, .int .i64 0] := rfl
      rw [hw]
      clear hw cx0 cx1 cx2 cx3 cx4 cx5 cx6 cx7 cx8 cx9 cx10 lx fx
      have OF := Lib.hid (OX4.out.sets [.int .i64 0, .int .i64 0, .int .i64 0, .int .i64 0, .int .u64 0, .int .i64 0, .int .i64 0, .int .i64 0, .int .i64 0, .slice none 0 0, .int .i64 0] rfl)
      have KF : Hid (Kept (Only X) wk (wk.setCells X 0 [.int .i64 0, .int .i64 0, .int .i64 0, .int .i64 0, .int .u64 0, .int .i64 0, .int .i64 0, .int .i64 0, .int .i64 0, .slice none 0 0, .int .i64 0])) := Lib.hid ((Kept.refl (Only X) wk).setsO (X := X) (show X = X from rfl) _)
      have KW := Lib.hid (K4.out.setsN (X := X) (Nat.le_of_eq HX.out) [.int .i64 0, .int .i64 0, .int .i64 0, .int .i64 0, .int .u64 0, .int .i64 0, .int .i64 0, .int .i64 0, .int .i64 0, .slice none 0 0, .int .i64 0])
      have NX := Lib.hid (fun (v : Value) (l : List It) (hr : Rt wk v l) (hv : ∀ a n c, v = .slice (some a) n c → a.block ≠ X) => show Rt (wk.setCells X 0 [.int .i64 0, .int .i64 0, .int .i64 0, .int .i64 0, .int .u64 0, .int .i64 0, .int .i64 0, .int .i64 0, .int .i64 0, .slice none 0 0, .int .i64 0]) v l from ⟨hr.rd.kept KF.out fun a n c h hh => hv a n c h hh, fun a n c h => (hr.ty a n c h).kept KF.out fun hh => hv a n c h hh⟩)
      have MF := Lib.hid (show Mo m U uc { t with now := T } (wk.setCells X 0 [.int .i64 0, .int .i64 0, .int .i64 0, .int .i64 0, .int .u64 0, .int .i64 0, .int .i64 0, .int .i64 0, .int .i64 0, .slice none 0 0, .int .i64 0]) from ⟨M4.out.ob.kept KF.out (fun hh => hXm (show m = X from hh).symm), fun i hi => NX.out _ _ (M4.out.lines i hi) (HNL.out i hi), NX.out _ _ M4.out.cr HNC.out⟩)
      clear NX
      generalize wk.setCells X 0 [.int .i64 0, .int .i64 0, .int .i64 0, .int .i64 0, .int .u64 0, .int .i64 0, .int .i64 0, .int .i64 0, .int .i64 0, .slice none 0 0, .int .i64 0] = F at *
      obtain ⟨lf, cf, ff⟩ := OF.out.blk
      have cf0 : F.cell? ⟨X, 0, none⟩ = some (.int .i64 0) := cf 0
      have cf1 : F.cell? ⟨X, 1, none⟩ = some (.int .i64 0) := cf 1
      have cf2 : F.cell? ⟨X, 2, none⟩ = some (.int .i64 0) := cf 2
      have cf3 : F.cell? ⟨X, 3, none⟩ = some (.int .i64 0) := cf 3
      have cf4 : F.cell? ⟨X, 4, none⟩ = some (.int .u64 0) := cf 4
      have cf5 : F.cell? ⟨X, 5, none⟩ = some (.int .i64 0) := cf 5
      have cf6 : F.cell? ⟨X, 6, none⟩ = some (.int .i64 0) := cf 6
      have cf7 : F.cell? ⟨X, 7, none⟩ = some (.int .i64 0) := cf 7
      have cf8 : F.cell? ⟨X, 8, none⟩ = some (.int .i64 0) := cf 8
      have cf9 : F.cell? ⟨X, 9, none⟩ = some (.slice none 0 0) := cf 9
      have cf10 : F.cell? ⟨X, 10, none⟩ = some (.int .i64 0) := cf 10
      clear cf
      exact done (.tuple #[noBox, .bool false]) rfl (by simp [noBox, results, Try.results53, go_sem, cf0, cf1, cf2, cf3, cf4, cf5, cf6, cf7, cf8, cf9, cf10]) (.inl ⟨rfl, fun i hi => HE.out i (by omega) hi, _, _, MF.out, KW.out⟩)
end Go.Proofs.Ytoihhidoafgoaaa
/- The document's port (chapter 13): a line without one of its items; Drop. -/
namespace Go.Proofs.Ytoihhidoafgoaaa
open Go.RowKit

set_option maxRecDepth 100000 in
set_option maxHeartbeats 4000000 in
theorem mwithout (a : Option Addr) (c : Nat) (l : List It) (k : Nat) (w : World) (h : Rt w (.slice a l.length c) l) (hk : k < l.length) (hl : l.length ≤ 100000) (hlc : l.length ≤ c) : Calls Try.prog 80 #[.slice a l.length c, .int .i64 k] w fun e w' => ∃ v, e = .returned v ∧ w'.ownsRow w.heap.size TX 11 v (l.take k ++ l.drop (k + 1)).length ((l.take k ++ l.drop (k + 1)).flatMap It.row) ∧ Below w.heap.size w w' := by
  have HR := Lib.hid h
  clear h
  obtain ⟨i0, hi0, hz0, hs0, hb0⟩ := info_parts info_x
  have hsl : ∀ W : World, (Instr.sliceAt 103 (.slice a l.length c) none (some (.int .i64 k)) none).run Try.prog W = .ok (.slice a k c) W := fun W => by
    have := run_slTo (w := W) (P := Try.prog) Try.underlying103 hi0 a l.length c .i64 (k : Int) (by omega)
    simpa using this
  have hsl2 : ∀ W : World, (Instr.sliceAt 103 (.slice a l.length c) (some (.int .i64 ((k : Int) + 1))) none none).run Try.prog W = .ok (.slice (slAddr a c (k + 1) 11) (l.length - (k + 1)) (c - (k + 1))) W := fun W => by
    have := run_slFrom (w := W) (P := Try.prog) Try.underlying103 hi0 a l.length c .i64 ((k : Int) + 1) (by omega)
    rw [hs0] at this
    rw [show ((k : Int) + 1).toNat = k + 1 by omega] at this
    exact this
  clear hi0 hz0 hs0 hb0
  go_enter Try.func80, Try.ntmps80
  go_wp2_with fail
  refine wp_stands (M := (Since w.heap.size)) (by kernel_rfl) ?_
  refine st_quiet [false, true, true, true, false, true, true, true, true, false, false] (by kernel_rfl) ?_
  simp only [pickAt]
  repeat (go_big_quiet_step (fail))
  refine wpQuiet_nil ?_
  refine st_act 0 rfl (by kernel_rfl) ?_
  refine run_want rfl ?_
  intro A hA
  go_simp
  have E0 := Lib.hid (World.ownsRow_made (base := w.heap.size) (e := TX) (size := 11) w.drew #[] 0 (Nat.le_refl _) (by decide) rfl)
  have K0 : Hid (Kept (Since w.heap.size) w (w.drew.alloc (.cells #[] TX))) := Lib.hid (((Kept.refl _ _).drewR).alloc _)
  refine hA _ _ ((Kept.refl _ _).alloc _) ?_
  try simp only [Act.put, List.setIfInBounds_toArray, List.set_cons_zero, List.set_cons_succ]
  clear A hA
  have hS : ∀ W, Kept (Since w.heap.size) w W → ∀ v l', Rt w v l' → Rt W v l' := fun W hK v l' hr => hr.kept hK fun g h1 h2 => absurd h1 (Nat.not_le.2 h2)
  refine st_act 4 rfl (by kernel_rfl) ?_
  refine run_want rfl ?_
  intro A hA
  have R1 := (hS _ K0.out _ _ (HR.out.to k (by omega))).rd
  rw [show (l.take k).length = k by rw [List.length_take]; omega] at R1
  refine wp_appAt (.tmp 5) (.tmp 8) 103 (by rfl) info_x Try.underlying103 rfl (by decide) E0.out R1 (by rfl) (by rfl) (one_itrows _) (by omega) K0.out.size ?_
  intro v4 w4 ho4 hg4 hb4
  rw [List.nil_append, Nat.zero_add] at ho4
  have G4 := Kept.of_grown (M := Since w.heap.size) hg4 fun y hy => (E0.out.lt y hy).1
  have K4 := Lib.hid (K0.out.trans G4)
  have O4 := Lib.hid ho4
  obtain ⟨a4, c4, rfl, _, _⟩ := (Rd.of_own ho4).form
  refine hA _ _ (G4) ?_
  try simp only [Act.put, List.setIfInBounds_toArray, List.set_cons_zero, List.set_cons_succ]
  clear A hA
  clear ho4 hg4 hb4 G4 R1
  refine st_act 9 rfl (by kernel_rfl) ?_
  refine run_want rfl ?_
  intro A hA
  have R2 := (hS _ K4.out _ _ (HR.out.tail (k + 1) (by omega))).rd
  rw [show (l.drop (k + 1)).length = l.length - (k + 1) by rw [List.length_drop]] at R2
  refine wp_appAt (.tmp 9) (.tmp 13) 103 (by rfl) info_x Try.underlying103 rfl (by decide) O4.out R2 (by rfl) (by rfl) (one_itrows _) (by omega) K4.out.size ?_
  intro v9 w9 ho9 hg9 hb9
  have G9 := Kept.of_grown (M := Since w.heap.size) hg9 fun y hy => (O4.out.lt y hy).1
  have K9 := Lib.hid (K4.out.trans G9)
  have O9 : Hid (w9.ownsRow w.heap.size TX 11 v9 (l.take k ++ l.drop (k + 1)).length ((l.take k ++ l.drop (k + 1)).flatMap It.row)) := Lib.hid (by
    rw [List.length_append, List.length_take, List.length_drop, Nat.min_eq_left (by omega), List.flatMap_append]
    exact ho9)
  refine hA _ _ (G9) ?_
  try simp only [Act.put, List.setIfInBounds_toArray, List.set_cons_zero, List.set_cons_succ]
  clear A hA
  clear ho9 hg9 hb9 G9 R2
  refine st_quiet [false, false, false, false, false, false, false, false, false, false, true] (by kernel_rfl) ?_
  simp only [pickAt]
  repeat (go_big_quiet_step (fail))
  refine wpQuiet_nil ?_
  refine st_done (by kernel_rfl) ?_
  go_wp2_with fail
  go_ret
  exact ⟨_, rfl, O9.out, K9.out.since (Nat.le_refl _)⟩
end Go.Proofs.Ytoihhidoafgoaaa
/- The document's port (chapter 13): Drop. -/
namespace Go.Proofs.Ytoihhidoafgoaaa
open Go.RowKit

theorem own_ge {w : World} {B : Nat} {e : TypeId} {k : Nat} {v : Value} {n : Nat} {xs : List Value} (h : w.ownsRow B e k v n xs) {a : Addr} {n' c : Nat} (hv : v = .slice (some a) n' c) : B ≤ a.block := by
  rcases h.2 with ⟨h1, _⟩ | ⟨g, cap, cur, hg, hb, _⟩
  · rw [hv] at h1; cases h1
  · rw [hv] at hg
    cases hg
    exact hb
def MDropPost (m : Nat) (t : Mp) (k : Nat) (w : World) (e : Ending) (w' : World) : Prop :=
  (∃ (i j : Nat) (hj : j < (t.L i).length), i < 8 ∧ k = (wfrom t.L (7 - i)).length + j ∧ e = .returned (.tuple #[boxV (t.L i)[j], .bool true]) ∧ MoPost m { t with L := upd t.L i ((t.L i).take j ++ (t.L i).drop (j + 1)) } w w') ∨
  (∃ (j : Nat) (hj : j < t.C.length), k = (wfrom t.L 8).length + j ∧ e = .returned (.tuple #[boxV t.C[j], .bool true]) ∧ MoPost m { t with C := t.C.take j ++ t.C.drop (j + 1) } w w') ∨
  (t.waits.length ≤ k ∧ e = .returned (.tuple #[noBox, .bool false]) ∧ Below w.heap.size w w')
theorem mdrop_neg (m : Nat) (k : Int) (w : World) (hk : k < 0) : Calls Try.prog 55 #[.pointer (some ⟨m, 0, none⟩), .int .i64 k] w fun e w' => e = .returned (.tuple #[noBox, .bool false]) ∧ Below w.heap.size w w' := by
  go_enter Try.func55, Try.ntmps55
  go_wp2_with fail
  refine done (.tuple #[noBox, .bool false]) rfl (by simp [noBox, results, Try.results55, go_sem]) ⟨rfl, (Below.refl _ _).alloc (Nat.le_refl _) _⟩
set_option maxRecDepth 100000 in
set_option maxHeartbeats 4000000 in
theorem mdrop (m : Nat) (U : Nat → Value) (uc : Value) (t : Mp) (N : Nat) (k : Nat) (w : World) (h : Mo m U uc t w) (ho : t.ok N) (hN : N ≤ 100000) (hkm : k ≤ 9223372036854775807) : Calls Try.prog 55 #[.pointer (some ⟨m, 0, none⟩), .int .i64 k] w (MDropPost m t k w) := by
  have HM := Lib.hid h
  have HO := Lib.hid ho
  clear h ho
  have hk0 : ¬ (k : Int) < 0 := by omega
  go_enter Try.func55, Try.ntmps55
  go_upto_region 1 with fail
  have OX := Lib.hid (Ob.new w #[.int .i64 0, .int .i64 0, .int .i64 0, .int .i64 0, .int .u64 0, .int .i64 0, .int .i64 0, .int .i64 0, .int .i64 0, .slice none 0 0, .int .i64 0] TX)
  have HB := Lib.hid ((Below.refl w.heap.size w).alloc (Nat.le_refl _) (.cells #[.int .i64 0, .int .i64 0, .int .i64 0, .int .i64 0, .int .u64 0, .int .i64 0, .int .i64 0, .int .i64 0, .int .i64 0, .slice none 0 0, .int .i64 0] TX))
  have M1 := Lib.hid (HM.out.below HB.out)
  generalize w.alloc (.cells #[.int .i64 0, .int .i64 0, .int .i64 0, .int .i64 0, .int .u64 0, .int .i64 0, .int .i64 0, .int .i64 0, .int .i64 0, .slice none 0 0, .int .i64 0] TX) = w1 at *
  obtain ⟨X, HX⟩ : ∃ X, Hid (w.heap.size = X) := ⟨_, Lib.hid rfl⟩
  rw [HX.out] at OX ⊢
  have hXm : X ≠ m := fun hh => absurd (Ty.one (by rw [hh] at OX; exact OX.out.ty) M1.out.ob.ty) (by decide)
  have HNL := Lib.hid (fun (i : Nat) (hi : i < 8) (a : Addr) (n c : Nat) (hv : U i = .slice (some a) n c) => show a.block ≠ X from by
    obtain ⟨cs, h2⟩ := (HM.out.lines i hi).ty a n c hv
    have := heap_lt h2
    have := HX.out
    omega)
  have HNC := Lib.hid (fun (a : Addr) (n c' : Nat) (hv : uc = .slice (some a) n c') => show a.block ≠ X from by
    obtain ⟨cs, h4⟩ := HM.out.cr.ty _ _ _ hv
    have := heap_lt h4
    have := HX.out
    omega)
  go_wp2_with fail
  try rw [decide_eq_false hk0]
  go_loopw [1, 5, 6, 7] (fun kk _ pr _ wr => ∃ r : Nat, r ≤ 8 ∧ pr = .int .i64 (7 - r) ∧ Hid ((wfrom t.L r).length ≤ k) ∧ kk = .int .i64 ((k : Int) - (wfrom t.L r).length) ∧ Mo m U uc t wr ∧ Ob wr X #[.int .i64 0, .int .i64 0, .int .i64 0, .int .i64 0, .int .u64 0, .int .i64 0, .int .i64 0, .int .i64 0, .int .i64 0, .slice none 0 0, .int .i64 0] TX ∧ Below w.heap.size w wr) (fun _ _ pr _ _ => (intOf pr + 1).toNat)
  case atStart => exact ⟨0, by omega, rfl, Lib.hid (by simp [wfrom]), by simp [wfrom], M1.out, OX.out, HB.out⟩
  case round =>
    obtain ⟨r, hr, rfl, HE, rfl, hm4, ho4, hb4⟩ := hrel
    have M4 := Lib.hid hm4
    have OX4 := Lib.hid ho4
    have B4 := Lib.hid hb4
    clear hm4 ho4 hb4
    rename World => wk
    have lm := M4.out.ob.lt
    have fm := (M4.out.ob.blk).2.2
    by_cases h8 : r < 8
    · obtain ⟨q, hq⟩ : ∃ q : Nat, q = 7 - r := ⟨_, rfl⟩
      have hq8 : q < 8 := by omega
      have hqi : (7 : Int) - r = q := by omega
      have hlq := HO.out.len q hq8
      have HQ := Lib.hid hq
      have HQI := Lib.hid hqi
      rw [hqi]
      clear hq hqi
      obtain ⟨j, HJ⟩ : ∃ j : Nat, Hid (k = (wfrom t.L r).length + j) := ⟨k - (wfrom t.L r).length, Lib.hid (by have := HE.out; omega)⟩
      have HJI : Hid ((k : Int) - (wfrom t.L r).length = j) := Lib.hid (by have := HJ.out; omega)
      have hj9 : j ≤ 9223372036854775807 := by have := HJ.out; omega
      rw [HJI.out]
      obtain ⟨a, c, hv, hlc, hcm⟩ := (M4.out.lines q hq8).form
      have cl : wk.cell? ⟨m, 3 + q, none⟩ = some (.slice a (t.L q).length c) := by rw [M4.out.line hq8, hv]
      have HV := Lib.hid hv
      clear hv
      by_cases hlt : j < (t.L q).length
      · have hrd := M4.out.lines q hq8
        rw [HV.out] at hrd
        obtain ⟨g, o, hgo, hg, hc⟩ := hrd.rd.row rowIt (by decide) j hlt
        cases hgo
        obtain ⟨x, hx⟩ : ∃ x, (t.L q)[j] = x := ⟨_, rfl⟩
        have HXX := Lib.hid hx
        have hc2 : ∀ i u, (x.row)[i]? = some u → wk.cell? ⟨g, o + j * 11 + i, none⟩ = some u := fun i u hi => hc i u (by
          show (It.row ((t.L q)[j]))[i]? = some u
          rw [hx]; exact hi)
        have c0 : wk.cell? ⟨g, o + j * 11, none⟩ = some (.int .i64 x.kind) := hc2 0 _ rfl
        have c1 : wk.cell? ⟨g, o + j * 11 + 1, none⟩ = some (.int .i64 x.src) := hc2 1 _ rfl
        have c2 : wk.cell? ⟨g, o + j * 11 + 2, none⟩ = some (.int .i64 x.dst) := hc2 2 _ rfl
        have c3 : wk.cell? ⟨g, o + j * 11 + 3, none⟩ = some (.int .i64 x.prio) := hc2 3 _ rfl
        have c4 : wk.cell? ⟨g, o + j * 11 + 4, none⟩ = some (.int .u64 x.msg) := hc2 4 _ rfl
        have c5 : wk.cell? ⟨g, o + j * 11 + 5, none⟩ = some (.int .i64 x.off) := hc2 5 _ rfl
        have c6 : wk.cell? ⟨g, o + j * 11 + 6, none⟩ = some (.int .i64 x.len) := hc2 6 _ rfl
        have c7 : wk.cell? ⟨g, o + j * 11 + 7, none⟩ = some (.int .i64 x.total) := hc2 7 _ rfl
        have c8 : wk.cell? ⟨g, o + j * 11 + 8, none⟩ = some (.int .i64 x.num) := hc2 8 _ rfl
        have c9 : wk.cell? ⟨g, o + j * 11 + 9, none⟩ = some (.slice x.da x.dn x.dc) := hc2 9 _ rfl
        have c10 : wk.cell? ⟨g, o + j * 11 + 10, none⟩ = some (.int .i64 x.path) := hc2 10 _ rfl
        clear hc hc2 hrd hx
        go_upto_region 8 with fail
        have OZ := Lib.hid (Ob.new wk #[.int .i64 x.kind, .int .i64 x.src, .int .i64 x.dst, .int .i64 x.prio, .int .u64 x.msg, .int .i64 x.off, .int .i64 x.len, .int .i64 x.total, .int .i64 x.num, .slice x.da x.dn x.dc, .int .i64 x.path] TX)
        have KA : Hid (Kept (fun _ => False) wk (wk.alloc (.cells #[.int .i64 x.kind, .int .i64 x.src, .int .i64 x.dst, .int .i64 x.prio, .int .u64 x.msg, .int .i64 x.off, .int .i64 x.len, .int .i64 x.total, .int .i64 x.num, .slice x.da x.dn x.dc, .int .i64 x.path] TX))) := Lib.hid ((Kept.refl _ _).alloc _)
        have M5a := Lib.hid (M4.out.keptF KA.out)
        have OX5a := Lib.hid (OX4.out.kept KA.out (fun h => h))
        have lX3 := OX4.out.lt
        obtain ⟨Z, HZ⟩ : ∃ Z, Hid (wk.heap.size = Z) := ⟨_, Lib.hid rfl⟩
        rw [HZ.out] at OZ ⊢
        have hXZ : X ≠ Z := by have := HZ.out; omega
        have hmZ : m ≠ Z := by have := HZ.out; omega
        clear lm fm cl c0 c1 c2 c3 c4 c5 c6 c7 c8 c9 c10
        generalize wk.alloc (.cells #[.int .i64 x.kind, .int .i64 x.src, .int .i64 x.dst, .int .i64 x.prio, .int .u64 x.msg, .int .i64 x.off, .int .i64 x.len, .int .i64 x.total, .int .i64 x.num, .slice x.da x.dn x.dc, .int .i64 x.path] TX) = w4 at *
        have lm := M5a.out.ob.lt
        have fm := (M5a.out.ob.blk).2.2
        have cl : w4.cell? ⟨m, 3 + q, none⟩ = some (.slice (some ⟨g, o, none⟩) (t.L q).length c) := by rw [M5a.out.line hq8, HV.out]
        have hmw := mwithout (some ⟨g, o, none⟩) c (t.L q) j w4.drew (by
          have h1 := (M5a.out.lines q hq8).kept (Kept.drew (fun _ => False) w4) (fun _ hh => hh.elim)
          rw [HV.out] at h1
          exact h1) hlt (by omega) hlc
        obtain ⟨L', HLP⟩ : ∃ L', Hid ((t.L q).take j ++ (t.L q).drop (j + 1) = L') := ⟨_, Lib.hid rfl⟩
        rw [HLP.out] at hmw
        have nm : ¬ Since w4.heap.size m := not_since lm
        have HXW : Hid (X < w4.heap.size) := Lib.hid OX5a.out.lt
        refine wp_heads (M := (Since w4.heap.size)) 13 (by kernel_rfl) (by kernel_rfl) ?_
        refine hd_quiet [true, true, true, true, true, true, true, true, true, false, true, true, false, false] (by kernel_rfl) ?_
        simp only [pickAt]
        repeat (go_big_quiet_step (fail))
        refine wpQuiet_nil ?_
        refine hd_act 9 rfl (by kernel_rfl) ?_
        refine run_want rfl ?_
        intro A hA
        go_simp
        refine hmw.mono ?_
        rintro e w6 ⟨v6, rfl, ho6, hb6⟩
        clear hmw
        obtain ⟨a6, c6, rfl, _, _⟩ := (Rd.of_own ho6).form
        have hk6 : Kept (Since w4.heap.size) w4.drew w6 := Kept.of_below hb6
        have K6a := Lib.hid ((Kept.drew (Since w4.heap.size) w4).trans hk6)
        have hlb : m < w6.heap.size := Nat.lt_of_lt_of_le lm K6a.out.size
        have hfb : ∀ i, w6.frozen? ⟨m, i, none⟩ = false := fun i => (K6a.out.frozen m i lm nm).trans (fm i)
        have hcb : w6.cell? ⟨m, 3 + q, none⟩ = some (.slice (some ⟨g, o, none⟩) (t.L q).length c) := (K6a.out.cell m (3 + q) lm nm).trans cl
        have hge := Lib.hid (fun (a : Addr) (n c' : Nat) hv => own_ge ho6 (a := a) (n' := n) (c := c') hv)
        have S6 := Lib.hid (M5a.out.setLine hq8 K6a.out ho6)
        have OX6 := Lib.hid ((OX5a.out.drew).kept (M := Since w4.heap.size) hk6 (not_since HXW.out))
        have OZ6 := Lib.hid ((OZ.out.drew).kept (M := Since w4.heap.size) hk6 (not_since OZ.out.lt))
        refine hA _ _ (hk6) ?_
        try simp only [Act.put, List.setIfInBounds_toArray, List.set_cons_zero, List.set_cons_succ]
        clear A hA
        clear hk6 ho6 hb6
        refine hd_quiet [false, false, false, false, false, false, false, false, false, false, false, false, true, false] (by kernel_rfl) ?_
        simp only [pickAt]
        repeat (go_big_quiet_step (fail))
        refine wpQuiet_nil ?_
        refine hd_tail rfl (by kernel_rfl) ?_
        simp only [List.drop_succ_cons, List.drop_zero]
        go_wp2
        refine NoPanic.normal ?_
        obtain ⟨s1, s2⟩ := S6.out
        have M5 := Lib.hid s1
        have K6 := Lib.hid ((((Kept.of_below (M := Only m) B4.out).trans (KA.out.mono fun _ _ h => h.elim)).trans s2))
        have OX5 := Lib.hid ((OX6.out.other ⟨m, 3 + q, none⟩ (.slice a6 L'.length c6) hXm))
        have OZ5 := Lib.hid ((OZ6.out.other ⟨m, 3 + q, none⟩ (.slice a6 L'.length c6) (fun hh => hmZ hh.symm)))
        have HNL5 := Lib.hid (fun (i : Nat) (hi : i < 8) (a : Addr) (n c' : Nat) (hv : upd U q (.slice a6 L'.length c6) i = .slice (some a) n c') => show a.block ≠ X from by
          by_cases hiq : i = q
          · subst hiq
            rw [upd_same] at hv
            have h1 : w4.heap.size ≤ a.block := hge.out a n c' hv
            have := HXW.out
            omega
          · rw [upd_other _ _ hiq] at hv
            exact HNL.out i hi a n c' hv)
        replace HNL := HNL5
        clear lm fm cl hlb hfb hcb s1 s2
        generalize w6.setCell ⟨m, 3 + q, none⟩ (.slice a6 L'.length c6) = w5 at *
        have HKJ : Hid (k = (wfrom t.L (7 - q)).length + j) := Lib.hid (by
          have h2 : 7 - q = r := by have := HQ.out; omega
          rw [h2]
          exact HJ.out)
        obtain ⟨lz, cz, fz⟩ := OZ5.out.blk
        have cz0 : w5.cell? ⟨Z, 0, none⟩ = some (.int .i64 x.kind) := cz 0
        have cz1 : w5.cell? ⟨Z, 1, none⟩ = some (.int .i64 x.src) := cz 1
        have cz2 : w5.cell? ⟨Z, 2, none⟩ = some (.int .i64 x.dst) := cz 2
        have cz3 : w5.cell? ⟨Z, 3, none⟩ = some (.int .i64 x.prio) := cz 3
        have cz4 : w5.cell? ⟨Z, 4, none⟩ = some (.int .u64 x.msg) := cz 4
        have cz5 : w5.cell? ⟨Z, 5, none⟩ = some (.int .i64 x.off) := cz 5
        have cz6 : w5.cell? ⟨Z, 6, none⟩ = some (.int .i64 x.len) := cz 6
        have cz7 : w5.cell? ⟨Z, 7, none⟩ = some (.int .i64 x.total) := cz 7
        have cz8 : w5.cell? ⟨Z, 8, none⟩ = some (.int .i64 x.num) := cz 8
        have cz9 : w5.cell? ⟨Z, 9, none⟩ = some (.slice x.da x.dn x.dc) := cz 9
        have cz10 : w5.cell? ⟨Z, 10, none⟩ = some (.int .i64 x.path) := cz 10
        clear cz
        obtain ⟨lx, cx, fx⟩ := OX5.out.blk
        have cx0 : w5.cell? ⟨X, 0, none⟩ = some (.int .i64 0) := cx 0
        have cx1 : w5.cell? ⟨X, 1, none⟩ = some (.int .i64 0) := cx 1
        have cx2 : w5.cell? ⟨X, 2, none⟩ = some (.int .i64 0) := cx 2
        have cx3 : w5.cell? ⟨X, 3, none⟩ = some (.int .i64 0) := cx 3
        have cx4 : w5.cell? ⟨X, 4, none⟩ = some (.int .u64 0) := cx 4
        have cx5 : w5.cell? ⟨X, 5, none⟩ = some (.int .i64 0) := cx 5
        have cx6 : w5.cell? ⟨X, 6, none⟩ = some (.int .i64 0) := cx 6
        have cx7 : w5.cell? ⟨X, 7, none⟩ = some (.int .i64 0) := cx 7
        have cx8 : w5.cell? ⟨X, 8, none⟩ = some (.int .i64 0) := cx 8
        have cx9 : w5.cell? ⟨X, 9, none⟩ = some (.slice none 0 0) := cx 9
        have cx10 : w5.cell? ⟨X, 10, none⟩ = some (.int .i64 0) := cx 10
        clear cx
        go_wp2_with fail
        have hw : (((((((((((w5.setCell ⟨X, 0, none⟩ (.int .i64 x.kind)).setCell ⟨X, 1, none⟩ (.int .i64 x.src)).setCell ⟨X, 2, none⟩ (.int .i64 x.dst)).setCell ⟨X, 3, none⟩ (.int .i64 x.prio)).setCell ⟨X, 4, none⟩ (.int .u64 x.msg)).setCell ⟨X, 5, none⟩ (.int .i64 x.off)).setCell ⟨X, 6, none⟩ (.int .i64 x.len)).setCell ⟨X, 7, none⟩ (.int .i64 x.total)).setCell ⟨X, 8, none⟩ (.int .i64 x.num)).setCell ⟨X, 9, none⟩ (.slice x.da x.dn x.dc)).setCell ⟨X, 10, none⟩ (.int .i64 x.path)) = w5.setCells X 0 [.int .i64 x.kind, .int .i64 x.src, .int .i64 x.dst, .int .i64 x.prio, .int .u64 x.msg, .int .i64 x.off, .int .i64 x.len, .int .i64 x.total, .int .i64 x.num, .slice x.da x.dn x.dc, .int .i64 x.path] := rfl
        rw [hw]
        clear hw cx0 cx1 cx2 cx3 cx4 cx5 cx6 cx7 cx8 cx9 cx10 cz0 cz1 cz2 cz3 cz4 cz5 cz6 cz7 cz8 cz9 cz10 lz fz lx fx
        have OF := Lib.hid (OX5.out.sets [.int .i64 x.kind, .int .i64 x.src, .int .i64 x.dst, .int .i64 x.prio, .int .u64 x.msg, .int .i64 x.off, .int .i64 x.len, .int .i64 x.total, .int .i64 x.num, .slice x.da x.dn x.dc, .int .i64 x.path] rfl)
        have KF : Hid (Kept (Only X) w5 (w5.setCells X 0 [.int .i64 x.kind, .int .i64 x.src, .int .i64 x.dst, .int .i64 x.prio, .int .u64 x.msg, .int .i64 x.off, .int .i64 x.len, .int .i64 x.total, .int .i64 x.num, .slice x.da x.dn x.dc, .int .i64 x.path])) := Lib.hid ((Kept.refl (Only X) w5).setsO (X := X) (show X = X from rfl) _)
        have KW := Lib.hid (K6.out.setsN (X := X) (Nat.le_of_eq HX.out) [.int .i64 x.kind, .int .i64 x.src, .int .i64 x.dst, .int .i64 x.prio, .int .u64 x.msg, .int .i64 x.off, .int .i64 x.len, .int .i64 x.total, .int .i64 x.num, .slice x.da x.dn x.dc, .int .i64 x.path])
        have NX := Lib.hid (fun (v : Value) (l : List It) (hr : Rt w5 v l) (hv : ∀ a n c, v = .slice (some a) n c → a.block ≠ X) => show Rt (w5.setCells X 0 [.int .i64 x.kind, .int .i64 x.src, .int .i64 x.dst, .int .i64 x.prio, .int .u64 x.msg, .int .i64 x.off, .int .i64 x.len, .int .i64 x.total, .int .i64 x.num, .slice x.da x.dn x.dc, .int .i64 x.path]) v l from ⟨hr.rd.kept KF.out fun a n c h hh => hv a n c h hh, fun a n c h => (hr.ty a n c h).kept KF.out fun hh => hv a n c h hh⟩)
        have MF := Lib.hid (show Mo _ _ _ _ (w5.setCells X 0 [.int .i64 x.kind, .int .i64 x.src, .int .i64 x.dst, .int .i64 x.prio, .int .u64 x.msg, .int .i64 x.off, .int .i64 x.len, .int .i64 x.total, .int .i64 x.num, .slice x.da x.dn x.dc, .int .i64 x.path]) from ⟨M5.out.ob.kept KF.out (fun hh => hXm (show m = X from hh).symm), fun i hi => NX.out _ _ (M5.out.lines i hi) (HNL.out i hi), NX.out _ _ M5.out.cr HNC.out⟩)
        clear NX
        generalize w5.setCells X 0 [.int .i64 x.kind, .int .i64 x.src, .int .i64 x.dst, .int .i64 x.prio, .int .u64 x.msg, .int .i64 x.off, .int .i64 x.len, .int .i64 x.total, .int .i64 x.num, .slice x.da x.dn x.dc, .int .i64 x.path] = F at *
        obtain ⟨lf, cf, ff⟩ := OF.out.blk
        have cf0 : F.cell? ⟨X, 0, none⟩ = some (.int .i64 x.kind) := cf 0
        have cf1 : F.cell? ⟨X, 1, none⟩ = some (.int .i64 x.src) := cf 1
        have cf2 : F.cell? ⟨X, 2, none⟩ = some (.int .i64 x.dst) := cf 2
        have cf3 : F.cell? ⟨X, 3, none⟩ = some (.int .i64 x.prio) := cf 3
        have cf4 : F.cell? ⟨X, 4, none⟩ = some (.int .u64 x.msg) := cf 4
        have cf5 : F.cell? ⟨X, 5, none⟩ = some (.int .i64 x.off) := cf 5
        have cf6 : F.cell? ⟨X, 6, none⟩ = some (.int .i64 x.len) := cf 6
        have cf7 : F.cell? ⟨X, 7, none⟩ = some (.int .i64 x.total) := cf 7
        have cf8 : F.cell? ⟨X, 8, none⟩ = some (.int .i64 x.num) := cf 8
        have cf9 : F.cell? ⟨X, 9, none⟩ = some (.slice x.da x.dn x.dc) := cf 9
        have cf10 : F.cell? ⟨X, 10, none⟩ = some (.int .i64 x.path) := cf 10
        clear cf
        refine done (.tuple #[boxV x, .bool true]) rfl (by simp [boxV, results, Try.results55, go_sem, cf0, cf1, cf2, cf3, cf4, cf5, cf6, cf7, cf8, cf9, cf10]) (.inl ⟨q, j, hlt, hq8, HKJ.out, by rw [HXX.out], _, _, by rw [HLP.out]; exact MF.out, KW.out⟩)
      · go_wp2_with fail
        go_roundw
        case rel =>
          have hl2 : (wfrom t.L (r + 1)).length = (wfrom t.L r).length + (t.L q).length := by
            rw [wfrom, List.length_append, HQ.out]
          refine ⟨r + 1, by omega, by have := HQI.out; congr 1; push_cast; omega, Lib.hid (by have := HJ.out; omega), by have := HJI.out; congr 1; rw [hl2]; push_cast; omega, M4.out, OX4.out, B4.out⟩
        case measure => simp [intOf]
    · obtain rfl : r = 8 := by omega
      rw [show (7 : Int) - ((8 : Nat) : Int) = -1 from rfl]
      obtain ⟨j, HJ⟩ : ∃ j : Nat, Hid (k = (wfrom t.L 8).length + j) := ⟨k - (wfrom t.L 8).length, Lib.hid (by have := HE.out; omega)⟩
      have HJI : Hid ((k : Int) - (wfrom t.L 8).length = j) := Lib.hid (by have := HJ.out; omega)
      have hj9 : j ≤ 9223372036854775807 := by have := HJ.out; omega
      rw [HJI.out]
      have hcl := HO.out.clen
      obtain ⟨a, c, hv, hlc, hcm⟩ := M4.out.cr.form
      have cl : wk.cell? ⟨m, 11, none⟩ = some (.slice a t.C.length c) := by rw [← hv]; exact (M4.out.ob.blk).2.1 11
      have HV := Lib.hid hv
      clear hv
      by_cases hlt : j < t.C.length
      · have hrd := M4.out.cr
        rw [HV.out] at hrd
        obtain ⟨g, o, hgo, hg, hc⟩ := hrd.rd.row rowIt (by decide) j hlt
        cases hgo
        obtain ⟨x, hx⟩ : ∃ x, t.C[j] = x := ⟨_, rfl⟩
        have HXX := Lib.hid hx
        have hc2 : ∀ i u, (x.row)[i]? = some u → wk.cell? ⟨g, o + j * 11 + i, none⟩ = some u := fun i u hi => hc i u (by
          show (It.row (t.C[j]))[i]? = some u
          rw [hx]; exact hi)
        have c0 : wk.cell? ⟨g, o + j * 11, none⟩ = some (.int .i64 x.kind) := hc2 0 _ rfl
        have c1 : wk.cell? ⟨g, o + j * 11 + 1, none⟩ = some (.int .i64 x.src) := hc2 1 _ rfl
        have c2 : wk.cell? ⟨g, o + j * 11 + 2, none⟩ = some (.int .i64 x.dst) := hc2 2 _ rfl
        have c3 : wk.cell? ⟨g, o + j * 11 + 3, none⟩ = some (.int .i64 x.prio) := hc2 3 _ rfl
        have c4 : wk.cell? ⟨g, o + j * 11 + 4, none⟩ = some (.int .u64 x.msg) := hc2 4 _ rfl
        have c5 : wk.cell? ⟨g, o + j * 11 + 5, none⟩ = some (.int .i64 x.off) := hc2 5 _ rfl
        have c6 : wk.cell? ⟨g, o + j * 11 + 6, none⟩ = some (.int .i64 x.len) := hc2 6 _ rfl
        have c7 : wk.cell? ⟨g, o + j * 11 + 7, none⟩ = some (.int .i64 x.total) := hc2 7 _ rfl
        have c8 : wk.cell? ⟨g, o + j * 11 + 8, none⟩ = some (.int .i64 x.num) := hc2 8 _ rfl
        have c9 : wk.cell? ⟨g, o + j * 11 + 9, none⟩ = some (.slice x.da x.dn x.dc) := hc2 9 _ rfl
        have c10 : wk.cell? ⟨g, o + j * 11 + 10, none⟩ = some (.int .i64 x.path) := hc2 10 _ rfl
        clear hc hc2 hrd hx
        go_upto_region 14 with fail
        have OZ := Lib.hid (Ob.new wk #[.int .i64 x.kind, .int .i64 x.src, .int .i64 x.dst, .int .i64 x.prio, .int .u64 x.msg, .int .i64 x.off, .int .i64 x.len, .int .i64 x.total, .int .i64 x.num, .slice x.da x.dn x.dc, .int .i64 x.path] TX)
        have KA : Hid (Kept (fun _ => False) wk (wk.alloc (.cells #[.int .i64 x.kind, .int .i64 x.src, .int .i64 x.dst, .int .i64 x.prio, .int .u64 x.msg, .int .i64 x.off, .int .i64 x.len, .int .i64 x.total, .int .i64 x.num, .slice x.da x.dn x.dc, .int .i64 x.path] TX))) := Lib.hid ((Kept.refl _ _).alloc _)
        have M5a := Lib.hid (M4.out.keptF KA.out)
        have OX5a := Lib.hid (OX4.out.kept KA.out (fun h => h))
        have lX3 := OX4.out.lt
        obtain ⟨Z, HZ⟩ : ∃ Z, Hid (wk.heap.size = Z) := ⟨_, Lib.hid rfl⟩
        rw [HZ.out] at OZ ⊢
        have hXZ : X ≠ Z := by have := HZ.out; omega
        have hmZ : m ≠ Z := by have := HZ.out; omega
        clear lm fm cl c0 c1 c2 c3 c4 c5 c6 c7 c8 c9 c10
        generalize wk.alloc (.cells #[.int .i64 x.kind, .int .i64 x.src, .int .i64 x.dst, .int .i64 x.prio, .int .u64 x.msg, .int .i64 x.off, .int .i64 x.len, .int .i64 x.total, .int .i64 x.num, .slice x.da x.dn x.dc, .int .i64 x.path] TX) = w4 at *
        have lm := M5a.out.ob.lt
        have fm := (M5a.out.ob.blk).2.2
        have cl : w4.cell? ⟨m, 11, none⟩ = some (.slice (some ⟨g, o, none⟩) t.C.length c) := by rw [← HV.out]; exact (M5a.out.ob.blk).2.1 11
        have hmw := mwithout (some ⟨g, o, none⟩) c t.C j w4 (by
          have h1 := M5a.out.cr
          rw [HV.out] at h1
          exact h1) hlt (by omega) hlc
        obtain ⟨L', HLP⟩ : ∃ L', Hid (t.C.take j ++ t.C.drop (j + 1) = L') := ⟨_, Lib.hid rfl⟩
        rw [HLP.out] at hmw
        have nm : ¬ Since w4.heap.size m := not_since lm
        have HXW : Hid (X < w4.heap.size) := Lib.hid OX5a.out.lt
        go_wp2_with fail
        refine (hmw).mono ?_
        rintro e w6 ⟨v6, rfl, ho6, hb6⟩
        clear hmw
        obtain ⟨a6, c6, rfl, _, _⟩ := (Rd.of_own ho6).form
        have K6a : Hid (Kept (Since w4.heap.size) w4 w6) := Lib.hid (Kept.of_below hb6)
        have hlb : m < w6.heap.size := Nat.lt_of_lt_of_le lm K6a.out.size
        have hfb : ∀ i, w6.frozen? ⟨m, i, none⟩ = false := fun i => (K6a.out.frozen m i lm nm).trans (fm i)
        have hcb : w6.cell? ⟨m, 11, none⟩ = some (.slice (some ⟨g, o, none⟩) t.C.length c) := (K6a.out.cell m 11 lm nm).trans cl
        have hge := Lib.hid (fun (a : Addr) (n c' : Nat) hv => own_ge ho6 (a := a) (n' := n) (c := c') hv)
        have S6 := Lib.hid (M5a.out.setCred K6a.out ho6)
        have OX6 := Lib.hid (OX5a.out.kept K6a.out (not_since HXW.out))
        have OZ6 := Lib.hid (OZ.out.kept K6a.out (not_since OZ.out.lt))
        clear ho6 hb6 lm fm cl
        go_upto_region 15 with fail
        obtain ⟨s1, s2⟩ := S6.out
        have M5 := Lib.hid s1
        have K6 := Lib.hid ((((Kept.of_below (M := Only m) B4.out).trans (KA.out.mono fun _ _ h => h.elim)).trans s2))
        have OX5 := Lib.hid ((OX6.out.other ⟨m, 11, none⟩ (.slice a6 L'.length c6) hXm))
        have OZ5 := Lib.hid ((OZ6.out.other ⟨m, 11, none⟩ (.slice a6 L'.length c6) (fun hh => hmZ hh.symm)))
        have HNC5 := Lib.hid (fun (a : Addr) (n c' : Nat) (hv : Value.slice a6 L'.length c6 = .slice (some a) n c') => show a.block ≠ X from by
          have h1 : w4.heap.size ≤ a.block := hge.out a n c' hv
          have := HXW.out
          omega)
        replace HNC := HNC5
        clear hlb hfb hcb s1 s2
        generalize w6.setCell ⟨m, 11, none⟩ (.slice a6 L'.length c6) = w5 at *
        obtain ⟨lz, cz, fz⟩ := OZ5.out.blk
        have cz0 : w5.cell? ⟨Z, 0, none⟩ = some (.int .i64 x.kind) := cz 0
        have cz1 : w5.cell? ⟨Z, 1, none⟩ = some (.int .i64 x.src) := cz 1
        have cz2 : w5.cell? ⟨Z, 2, none⟩ = some (.int .i64 x.dst) := cz 2
        have cz3 : w5.cell? ⟨Z, 3, none⟩ = some (.int .i64 x.prio) := cz 3
        have cz4 : w5.cell? ⟨Z, 4, none⟩ = some (.int .u64 x.msg) := cz 4
        have cz5 : w5.cell? ⟨Z, 5, none⟩ = some (.int .i64 x.off) := cz 5
        have cz6 : w5.cell? ⟨Z, 6, none⟩ = some (.int .i64 x.len) := cz 6
        have cz7 : w5.cell? ⟨Z, 7, none⟩ = some (.int .i64 x.total) := cz 7
        have cz8 : w5.cell? ⟨Z, 8, none⟩ = some (.int .i64 x.num) := cz 8
        have cz9 : w5.cell? ⟨Z, 9, none⟩ = some (.slice x.da x.dn x.dc) := cz 9
        have cz10 : w5.cell? ⟨Z, 10, none⟩ = some (.int .i64 x.path) := cz 10
        clear cz
        obtain ⟨lx, cx, fx⟩ := OX5.out.blk
        have cx0 : w5.cell? ⟨X, 0, none⟩ = some (.int .i64 0) := cx 0
        have cx1 : w5.cell? ⟨X, 1, none⟩ = some (.int .i64 0) := cx 1
        have cx2 : w5.cell? ⟨X, 2, none⟩ = some (.int .i64 0) := cx 2
        have cx3 : w5.cell? ⟨X, 3, none⟩ = some (.int .i64 0) := cx 3
        have cx4 : w5.cell? ⟨X, 4, none⟩ = some (.int .u64 0) := cx 4
        have cx5 : w5.cell? ⟨X, 5, none⟩ = some (.int .i64 0) := cx 5
        have cx6 : w5.cell? ⟨X, 6, none⟩ = some (.int .i64 0) := cx 6
        have cx7 : w5.cell? ⟨X, 7, none⟩ = some (.int .i64 0) := cx 7
        have cx8 : w5.cell? ⟨X, 8, none⟩ = some (.int .i64 0) := cx 8
        have cx9 : w5.cell? ⟨X, 9, none⟩ = some (.slice none 0 0) := cx 9
        have cx10 : w5.cell? ⟨X, 10, none⟩ = some (.int .i64 0) := cx 10
        clear cx
        go_wp2_with fail
        have hw : (((((((((((w5.setCell ⟨X, 0, none⟩ (.int .i64 x.kind)).setCell ⟨X, 1, none⟩ (.int .i64 x.src)).setCell ⟨X, 2, none⟩ (.int .i64 x.dst)).setCell ⟨X, 3, none⟩ (.int .i64 x.prio)).setCell ⟨X, 4, none⟩ (.int .u64 x.msg)).setCell ⟨X, 5, none⟩ (.int .i64 x.off)).setCell ⟨X, 6, none⟩ (.int .i64 x.len)).setCell ⟨X, 7, none⟩ (.int .i64 x.total)).setCell ⟨X, 8, none⟩ (.int .i64 x.num)).setCell ⟨X, 9, none⟩ (.slice x.da x.dn x.dc)).setCell ⟨X, 10, none⟩ (.int .i64 x.path)) = w5.setCells X 0 [.int .i64 x.kind, .int .i64 x.src, .int .i64 x.dst, .int .i64 x.prio, .int .u64 x.msg, .int .i64 x.off, .int .i64 x.len, .int .i64 x.total, .int .i64 x.num, .slice x.da x.dn x.dc, .int .i64 x.path] := rfl
        rw [hw]
        clear hw cx0 cx1 cx2 cx3 cx4 cx5 cx6 cx7 cx8 cx9 cx10 cz0 cz1 cz2 cz3 cz4 cz5 cz6 cz7 cz8 cz9 cz10 lz fz lx fx
        have OF := Lib.hid (OX5.out.sets [.int .i64 x.kind, .int .i64 x.src, .int .i64 x.dst, .int .i64 x.prio, .int .u64 x.msg, .int .i64 x.off, .int .i64 x.len, .int .i64 x.total, .int .i64 x.num, .slice x.da x.dn x.dc, .int .i64 x.path] rfl)
        have KF : Hid (Kept (Only X) w5 (w5.setCells X 0 [.int .i64 x.kind, .int .i64 x.src, .int .i64 x.dst, .int .i64 x.prio, .int .u64 x.msg, .int .i64 x.off, .int .i64 x.len, .int .i64 x.total, .int .i64 x.num, .slice x.da x.dn x.dc, .int .i64 x.path])) := Lib.hid ((Kept.refl (Only X) w5).setsO (X := X) (show X = X from rfl) _)
        have KW := Lib.hid (K6.out.setsN (X := X) (Nat.le_of_eq HX.out) [.int .i64 x.kind, .int .i64 x.src, .int .i64 x.dst, .int .i64 x.prio, .int .u64 x.msg, .int .i64 x.off, .int .i64 x.len, .int .i64 x.total, .int .i64 x.num, .slice x.da x.dn x.dc, .int .i64 x.path])
        have NX := Lib.hid (fun (v : Value) (l : List It) (hr : Rt w5 v l) (hv : ∀ a n c, v = .slice (some a) n c → a.block ≠ X) => show Rt (w5.setCells X 0 [.int .i64 x.kind, .int .i64 x.src, .int .i64 x.dst, .int .i64 x.prio, .int .u64 x.msg, .int .i64 x.off, .int .i64 x.len, .int .i64 x.total, .int .i64 x.num, .slice x.da x.dn x.dc, .int .i64 x.path]) v l from ⟨hr.rd.kept KF.out fun a n c h hh => hv a n c h hh, fun a n c h => (hr.ty a n c h).kept KF.out fun hh => hv a n c h hh⟩)
        have MF := Lib.hid (show Mo _ _ _ _ (w5.setCells X 0 [.int .i64 x.kind, .int .i64 x.src, .int .i64 x.dst, .int .i64 x.prio, .int .u64 x.msg, .int .i64 x.off, .int .i64 x.len, .int .i64 x.total, .int .i64 x.num, .slice x.da x.dn x.dc, .int .i64 x.path]) from ⟨M5.out.ob.kept KF.out (fun hh => hXm (show m = X from hh).symm), fun i hi => NX.out _ _ (M5.out.lines i hi) (HNL.out i hi), NX.out _ _ M5.out.cr HNC.out⟩)
        clear NX
        generalize w5.setCells X 0 [.int .i64 x.kind, .int .i64 x.src, .int .i64 x.dst, .int .i64 x.prio, .int .u64 x.msg, .int .i64 x.off, .int .i64 x.len, .int .i64 x.total, .int .i64 x.num, .slice x.da x.dn x.dc, .int .i64 x.path] = F at *
        obtain ⟨lf, cf, ff⟩ := OF.out.blk
        have cf0 : F.cell? ⟨X, 0, none⟩ = some (.int .i64 x.kind) := cf 0
        have cf1 : F.cell? ⟨X, 1, none⟩ = some (.int .i64 x.src) := cf 1
        have cf2 : F.cell? ⟨X, 2, none⟩ = some (.int .i64 x.dst) := cf 2
        have cf3 : F.cell? ⟨X, 3, none⟩ = some (.int .i64 x.prio) := cf 3
        have cf4 : F.cell? ⟨X, 4, none⟩ = some (.int .u64 x.msg) := cf 4
        have cf5 : F.cell? ⟨X, 5, none⟩ = some (.int .i64 x.off) := cf 5
        have cf6 : F.cell? ⟨X, 6, none⟩ = some (.int .i64 x.len) := cf 6
        have cf7 : F.cell? ⟨X, 7, none⟩ = some (.int .i64 x.total) := cf 7
        have cf8 : F.cell? ⟨X, 8, none⟩ = some (.int .i64 x.num) := cf 8
        have cf9 : F.cell? ⟨X, 9, none⟩ = some (.slice x.da x.dn x.dc) := cf 9
        have cf10 : F.cell? ⟨X, 10, none⟩ = some (.int .i64 x.path) := cf 10
        clear cf
        refine done (.tuple #[boxV x, .bool true]) rfl (by simp [boxV, results, Try.results55, go_sem, cf0, cf1, cf2, cf3, cf4, cf5, cf6, cf7, cf8, cf9, cf10]) (.inr (.inl ⟨j, hlt, HJ.out, by rw [HXX.out], _, _, by rw [HLP.out]; exact MF.out, KW.out⟩))
      · obtain ⟨lx, cx, fx⟩ := OX4.out.blk
        have cx0 : wk.cell? ⟨X, 0, none⟩ = some (.int .i64 0) := cx 0
        have cx1 : wk.cell? ⟨X, 1, none⟩ = some (.int .i64 0) := cx 1
        have cx2 : wk.cell? ⟨X, 2, none⟩ = some (.int .i64 0) := cx 2
        have cx3 : wk.cell? ⟨X, 3, none⟩ = some (.int .i64 0) := cx 3
        have cx4 : wk.cell? ⟨X, 4, none⟩ = some (.int .u64 0) := cx 4
        have cx5 : wk.cell? ⟨X, 5, none⟩ = some (.int .i64 0) := cx 5
        have cx6 : wk.cell? ⟨X, 6, none⟩ = some (.int .i64 0) := cx 6
        have cx7 : wk.cell? ⟨X, 7, none⟩ = some (.int .i64 0) := cx 7
        have cx8 : wk.cell? ⟨X, 8, none⟩ = some (.int .i64 0) := cx 8
        have cx9 : wk.cell? ⟨X, 9, none⟩ = some (.slice none 0 0) := cx 9
        have cx10 : wk.cell? ⟨X, 10, none⟩ = some (.int .i64 0) := cx 10
        clear cx
        go_wp2_with fail
        have hw : (((((((((((wk.setCell ⟨X, 0, none⟩ (.int .i64 0)).setCell ⟨X, 1, none⟩ (.int .i64 0)).setCell ⟨X, 2, none⟩ (.int .i64 0)).setCell ⟨X, 3, none⟩ (.int .i64 0)).setCell ⟨X, 4, none⟩ (.int .u64 0)).setCell ⟨X, 5, none⟩ (.int .i64 0)).setCell ⟨X, 6, none⟩ (.int .i64 0)).setCell ⟨X, 7, none⟩ (.int .i64 0)).setCell ⟨X, 8, none⟩ (.int .i64 0)).setCell ⟨X, 9, none⟩ (.slice none 0 0)).setCell ⟨X, 10, none⟩ (.int .i64 0)) = wk.setCells X 0 [.int .i64 0, .int .i64 0, .int .i64 0, .int .i64 0, .int .u64 0, .int .i64 0, .int .i64 0, .int .i64 0, .int .i64 0, .slice none 0 0, .int .i64 0] := rfl
        rw [hw]
        clear hw cx0 cx1 cx2 cx3 cx4 cx5 cx6 cx7 cx8 cx9 cx10 lx fx
        have OF := Lib.hid (OX4.out.sets [.int .i64 0, .int .i64 0, .int .i64 0, .int .i64 0, .int .u64 0, .int .i64 0, .int .i64 0, .int .i64 0, .int .i64 0, .slice none 0 0, .int .i64 0] rfl)
        have KW := Lib.hid (Below.sets B4.out (X := X) (Nat.le_of_eq HX.out) B4.out.size [.int .i64 0, .int .i64 0, .int .i64 0, .int .i64 0, .int .u64 0, .int .i64 0, .int .i64 0, .int .i64 0, .int .i64 0, .slice none 0 0, .int .i64 0])
        generalize wk.setCells X 0 [.int .i64 0, .int .i64 0, .int .i64 0, .int .i64 0, .int .u64 0, .int .i64 0, .int .i64 0, .int .i64 0, .int .i64 0, .slice none 0 0, .int .i64 0] = F at *
        obtain ⟨lf, cf, ff⟩ := OF.out.blk
        have cf0 : F.cell? ⟨X, 0, none⟩ = some (.int .i64 0) := cf 0
        have cf1 : F.cell? ⟨X, 1, none⟩ = some (.int .i64 0) := cf 1
        have cf2 : F.cell? ⟨X, 2, none⟩ = some (.int .i64 0) := cf 2
        have cf3 : F.cell? ⟨X, 3, none⟩ = some (.int .i64 0) := cf 3
        have cf4 : F.cell? ⟨X, 4, none⟩ = some (.int .u64 0) := cf 4
        have cf5 : F.cell? ⟨X, 5, none⟩ = some (.int .i64 0) := cf 5
        have cf6 : F.cell? ⟨X, 6, none⟩ = some (.int .i64 0) := cf 6
        have cf7 : F.cell? ⟨X, 7, none⟩ = some (.int .i64 0) := cf 7
        have cf8 : F.cell? ⟨X, 8, none⟩ = some (.int .i64 0) := cf 8
        have cf9 : F.cell? ⟨X, 9, none⟩ = some (.slice none 0 0) := cf 9
        have cf10 : F.cell? ⟨X, 10, none⟩ = some (.int .i64 0) := cf 10
        clear cf
        exact done (.tuple #[noBox, .bool false]) rfl (by simp [noBox, results, Try.results55, go_sem, cf0, cf1, cf2, cf3, cf4, cf5, cf6, cf7, cf8, cf9, cf10]) (.inr (.inr ⟨by unfold Mp.waits; rw [List.length_append]; have := HJ.out; omega, rfl, HX.out ▸ KW.out⟩))
end Go.Proofs.Ytoihhidoafgoaaa
/- The port and the document's port side by side (chapter 13): the plain law. -/
namespace Go.Proofs.Ytoihhidoafgoaaa
open Go.RowKit

def newM (room credits : Int) (trim : Bool) : Mp := ⟨room, credits, trim, fun _ => [], [], 0, 0, false⟩
theorem mnew_yes (room credits : Int) (trim : Bool) (w : World) (h : 0 ≤ room ∧ room ≤ 1073741824) (h2 : 0 ≤ credits ∧ credits ≤ 1073741824) : Calls Try.prog 50 #[.int .i64 room, .int .i64 credits, .bool trim] w fun e w' => ∃ m U uc, e = .returned (.tuple #[.pointer (some ⟨m, 0, none⟩), .int .i64 0]) ∧ Mo m U uc (newM room credits trim) w' ∧ Below w.heap.size w w' := by
  obtain ⟨h3, h4⟩ := h
  obtain ⟨h5, h6⟩ := h2
  go_enter Try.func50, Try.ntmps50
  go_wp2_with fail
  go_ret2
  refine ⟨_, fun _ => .slice none 0 0, .slice none 0 0, rfl, ⟨Ob.new _ _ _, fun i _ => ⟨.inl ⟨rfl, rfl, rfl⟩, fun a n c hv => (by cases hv)⟩, ⟨.inl ⟨rfl, rfl, rfl⟩, fun a n c hv => (by cases hv)⟩⟩, (Below.refl _ _).alloc (Nat.le_refl _) _⟩
theorem mnew_no (room credits : Int) (trim : Bool) (w : World) (h : ¬ ((0 ≤ room ∧ room ≤ 1073741824) ∧ 0 ≤ credits ∧ credits ≤ 1073741824)) : Calls Try.prog 50 #[.int .i64 room, .int .i64 credits, .bool trim] w fun e w' => e = .returned (.tuple #[.pointer none, .int .i64 1]) ∧ w = w' := by
  have hc : room < 0 ∨ (0 ≤ room ∧ 1073741824 < room) ∨ (0 ≤ room ∧ room ≤ 1073741824 ∧ credits < 0) ∨ (0 ≤ room ∧ room ≤ 1073741824 ∧ 0 ≤ credits ∧ 1073741824 < credits) := by omega
  clear h
  rcases hc with h | ⟨h, h1⟩ | ⟨h, h1, h2⟩ | ⟨h, h1, h2, h3⟩
  all_goals
    go_enter Try.func50, Try.ntmps50
    go_wp2_with fail
    go_ret2
    exact ⟨rfl, rfl⟩
theorem new_no (room credits : Int) (trim : Bool) (w : World) (h : ¬ ((0 ≤ room ∧ room ≤ 1073741824) ∧ 0 ≤ credits ∧ credits ≤ 1073741824)) : Calls Try.prog 32 #[.int .i64 room, .int .i64 credits, .bool trim] w fun e w' => e = .returned (.tuple #[.pointer none, .int .i64 1]) ∧ w = w' := by
  have hc : room < 0 ∨ (0 ≤ room ∧ 1073741824 < room) ∨ (0 ≤ room ∧ room ≤ 1073741824 ∧ credits < 0) ∨ (0 ≤ room ∧ room ≤ 1073741824 ∧ 0 ≤ credits ∧ 1073741824 < credits) := by omega
  clear h
  rcases hc with h | ⟨h, h1⟩ | ⟨h, h1, h2⟩ | ⟨h, h1, h2, h3⟩
  all_goals
    go_enter Try.func32, Try.ntmps32
    go_wp2_with fail
    go_ret2
    exact ⟨rfl, rfl⟩
inductive MPutRel (t : Mp) (x : It) : Int → Mp → Prop
  | full : x.kind = 11 → t.most ≤ t.C.length → MPutRel t x 3 t
  | cred : x.kind = 11 → (t.C.length : Int) < t.most → MPutRel t x 1 { t with C := t.C ++ [x] }
  | line (i : Nat) : x.kind ≠ 11 → i < 8 → clampI x.prio 0 7 = i → msum t.L 8 + x.bytes ≤ t.room → MPutRel t x 1 { t with L := upd t.L i (t.L i ++ [x]) }
  | drop : x.kind ≠ 11 → t.room < msum t.L 8 + x.bytes → (x.kind ≠ 1 ∨ t.trim = false ∨ t.room < msum t.L 8 + 26) → MPutRel t x 3 t
  | trim : x.kind = 1 → t.trim = true → t.room < msum t.L 8 + x.bytes → msum t.L 8 + 26 ≤ t.room → MPutRel t x 2 { t with L := upd t.L 7 (t.L 7 ++ [x.hdr 7]) }
theorem clamp_nat (v : Int) : ∃ i : Nat, i < 8 ∧ clampI v 0 7 = i := by
  refine ⟨(clampI v 0 7).toNat, ?_, ?_⟩
  · unfold clampI
    split
    · decide
    · split <;> omega
  · unfold clampI
    split
    · rfl
    · split <;> omega
theorem MoPost.same {m : Nat} {U : Nat → Value} {uc : Value} {t : Mp} {w w' : World} (h : Mo m U uc t w) (hb : Below w.heap.size w w') : MoPost m t w w' := ⟨U, uc, h.below hb, Kept.of_below hb⟩
theorem mput_any (m : Nat) (U : Nat → Value) (uc : Value) (t : Mp) (N : Nat) (x : It) (w : World) (h : Mo m U uc t w) (ho : t.ok N) (hN : N ≤ 100000) (hx : x.ok2) : Calls Try.prog 78 #[.pointer (some ⟨m, 0, none⟩), x.val] w fun e w' => ∃ r t', e = .returned (.int .i64 r) ∧ MoPost m t' w w' ∧ MPutRel t x r t' := by
  by_cases hk : x.kind = 11
  · have hkb : (x.kind == 11) = true := beq_iff_eq.2 hk
    by_cases hc : t.most ≤ (t.C.length : Int)
    · refine (mput_cfull m U uc t x w h hkb (decide_eq_true hc)).mono ?_
      rintro e w' ⟨rfl, hb⟩
      exact ⟨3, t, rfl, MoPost.same h hb, .full hk hc⟩
    · refine (mput_cred m U uc t x w h hkb (decide_eq_false hc) (Nat.le_trans ho.clen hN)).mono ?_
      rintro e w' ⟨rfl, hp⟩
      exact ⟨1, _, rfl, hp, .cred hk (by omega)⟩
  · have hkb : (x.kind == 11) = false := beq_eq_false_iff_ne.2 hk
    obtain ⟨i, hi, hc⟩ := clamp_nat x.prio
    by_cases hf : msum t.L 8 + x.bytes ≤ t.room
    · refine (mput_line m U uc t N i x w h ho hN hx hkb hi hc hf).mono ?_
      rintro e w' ⟨rfl, hp⟩
      exact ⟨1, _, rfl, hp, .line i hk hi hc hf⟩
    · cases ht : t.trim with
      | false =>
        refine (mput_drop m U uc t N i x w h ho hN hx hkb hc (by omega) (.inl ht)).mono ?_
        rintro e w' ⟨rfl, hb⟩
        exact ⟨3, t, rfl, MoPost.same h hb, .drop hk (by omega) (.inr (.inl ht))⟩
      | true =>
        by_cases hk1 : x.kind = 1
        · by_cases hf2 : msum t.L 8 + 26 ≤ t.room
          · refine (mput_trim m U uc t N i x w h ho hN hx hkb hc (by omega) ht hk1 hf2).mono ?_
            rintro e w' ⟨rfl, hp⟩
            exact ⟨2, _, rfl, hp, .trim hk1 ht (by omega) hf2⟩
          · refine (mput_trimno m U uc t N i x w h ho hN hx hkb hc (by omega) ht hk1 (by omega)).mono ?_
            rintro e w' ⟨rfl, hb⟩
            exact ⟨3, t, rfl, MoPost.same h hb, .drop hk (by omega) (.inr (.inr (by omega)))⟩
        · refine (mput_drop m U uc t N i x w h ho hN hx hkb hc (by omega) (.inr ⟨ht, hk1⟩)).mono ?_
          rintro e w' ⟨rfl, hb⟩
          exact ⟨3, t, rfl, MoPost.same h hb, .drop hk (by omega) (.inl hk1)⟩
structure Sim (p : Pp) (t : Mp) : Prop where
  room : t.room = p.room
  most : t.most = p.most
  trim : t.trim = p.trim
  L : ∀ i, i < 8 → Like (p.L i) (t.L i)
  C : Like p.C t.C
  pnow : 0 ≤ p.now
  now : t.now = min p.now 1125899906842624
  e : p.pc.e = 4
  ever : t.ever = p.pc.v
  last : t.last = p.pc.l
  n : p.pc.n ≤ t.now
  pok : p.pc.ok
theorem like_bsum : ∀ {Y W : List It}, Like Y W → (∀ x ∈ W, x.ok2) → sumZ Y = bsum W
  | [], [], _, _ => rfl
  | [], _ :: _, h, _ => by simp [Like] at h
  | _ :: _, [], h, _ => by simp [Like] at h
  | y :: Y, x :: W, h, ho => by
    have h1 : y.plain = x.plain ∧ Like Y W := by
      unfold Like at h ⊢
      simpa using h
    rw [sumZ_cons, It.sz_plain h1.1, (ho x List.mem_cons_self).sz, like_bsum h1.2 fun z hz => ho z (List.mem_cons_of_mem _ hz)]
    simp [bsum]
theorem Sim.sum {p : Pp} {t : Mp} {N M : Nat} (h : Sim p t) (hp : p.ok N) (ht : t.ok M) : p.u = msum t.L 8 := by
  have key : ∀ i, i < 8 → sumZ (p.L i) = bsum (t.L i) := fun i hi => like_bsum (h.L i hi) fun x hx => ht.items x (.inr ⟨i, hi, hx⟩)
  rw [hp.sum]
  unfold usum
  rw [key 0 (by decide), key 1 (by decide), key 2 (by decide), key 3 (by decide), key 4 (by decide), key 5 (by decide), key 6 (by decide), key 7 (by decide)]
  simp [msum]
theorem Like.snoc {Y W : List It} (h : Like Y W) {y x : It} (hy : y.plain = x.plain) : Like (Y ++ [y]) (W ++ [x]) := by
  unfold Like at *
  rw [List.map_append, List.map_append, h]
  simp [hy]
theorem hdr_plain {x x' : It} (h : x.plain = x'.plain) : (x.hdr 7).plain = (x'.hdr 7).plain := by
  have h1 : (x.plain.hdr 7).plain = (x'.plain.hdr 7).plain := by rw [h]
  exact h1
theorem ok2_plain {x x' : It} (h : x.plain = x'.plain) (hx : x'.ok2) : x.ok2 := by
  have h1 : x.dn = x'.dn := show x.plain.dn = x'.plain.dn from congrArg It.dn h
  have h2 : x.len = x'.len := show x.plain.len = x'.plain.len from congrArg It.len h
  exact ⟨by rw [h1]; exact hx.dn, by rw [h2]; exact hx.len⟩
theorem Sim.lineL {p : Pp} {t : Mp} (h : Sim p t) {i : Nat} {l l' : List It} (hl : Like l l') (u : Int) : Sim { p with u := u, L := upd p.L i l } { t with L := upd t.L i l' } := by
  refine ⟨h.room, h.most, h.trim, fun j hj => ?_, h.C, h.pnow, h.now, h.e, h.ever, h.last, h.n, h.pok⟩
  show Like (upd p.L i l j) (upd t.L i l' j)
  by_cases hji : j = i
  · subst hji; rw [upd_same, upd_same]; exact hl
  · rw [upd_other _ _ hji, upd_other _ _ hji]; exact h.L j hj
theorem Sim.cred {p : Pp} {t : Mp} (h : Sim p t) {C C' : List It} (hl : Like C C') : Sim { p with C := C } { t with C := C' } :=
  ⟨h.room, h.most, h.trim, h.L, hl, h.pnow, h.now, h.e, h.ever, h.last, h.n, h.pok⟩
theorem Sim.put {p p' : Pp} {t t' : Mp} {N M : Nat} {x x' : It} {r r' : Int} (h : Sim p t) (hp : p.ok N) (ht : t.ok M) (hx : x.plain = x'.plain) (hx' : x'.ok2) (h1 : PutRel p x r p') (h2 : MPutRel t x' r' t') : r = r' ∧ Sim p' t' := by
  have hk : x.kind = x'.kind := show x.plain.kind = x'.plain.kind from congrArg It.kind hx
  have hpr : x.prio = x'.prio := show x.plain.prio = x'.plain.prio from congrArg It.prio hx
  have hs : x.sz = x'.bytes := by rw [It.sz_plain hx]; exact hx'.sz
  have hu := h.sum hp ht
  have hC := h.C.len
  have hm := h.most
  have hr := h.room
  have htr := h.trim
  cases h1 with
  | full a1 a2 =>
    cases h2 with
    | full b1 b2 => exact ⟨rfl, h⟩
    | cred b1 b2 => omega
    | line i b1 _ _ _ => exact absurd (hk ▸ a1) b1
    | drop b1 _ _ => exact absurd (hk ▸ a1) b1
    | trim b1 _ _ _ => omega
  | cred y a1 a2 a3 =>
    cases h2 with
    | full b1 b2 => omega
    | cred b1 b2 => exact ⟨rfl, h.cred (h.C.snoc (a3.trans hx))⟩
    | line i b1 _ _ _ => exact absurd (hk ▸ a1) b1
    | drop b1 _ _ => exact absurd (hk ▸ a1) b1
    | trim b1 _ _ _ => omega
  | line y i a1 a2 a3 a4 a5 =>
    cases h2 with
    | full b1 b2 => exact absurd (hk.trans b1) a1
    | cred b1 b2 => exact absurd (hk.trans b1) a1
    | line j b1 b2 b3 b4 =>
      have hij : i = j := by rw [hpr] at a3; omega
      subst hij
      exact ⟨rfl, h.lineL ((h.L i a2).snoc (a5.trans hx)) _⟩
    | drop b1 b2 b3 => omega
    | trim b1 b2 b3 b4 => omega
  | drop a1 a2 a3 =>
    cases h2 with
    | full b1 b2 => exact absurd (hk.trans b1) a1
    | cred b1 b2 => exact absurd (hk.trans b1) a1
    | line j b1 b2 b3 b4 => omega
    | drop b1 b2 b3 => exact ⟨rfl, h⟩
    | trim b1 b2 b3 b4 =>
      rcases a3 with a3 | a3 | a3
      · exact absurd (hk.trans b1) a3
      · rw [htr, a3] at b2; cases b2
      · omega
  | trim a1 a2 a3 a4 =>
    cases h2 with
    | full b1 b2 => omega
    | cred b1 b2 => omega
    | line j b1 b2 b3 b4 => omega
    | drop b1 b2 b3 =>
      rcases b3 with b3 | b3 | b3
      · exact absurd (hk ▸ a1) b3
      · rw [htr, a2] at b3; cases b3
      · omega
    | trim b1 b2 b3 b4 => exact ⟨rfl, h.lineL ((h.L 7 (by decide)).snoc (hdr_plain hx)) _⟩
end Go.Proofs.Ytoihhidoafgoaaa
/- The port and the document's port side by side (chapter 13): Take, Drop, Double. -/
namespace Go.Proofs.Ytoihhidoafgoaaa
open Go.RowKit

theorem Like.cons_inv {y : It} {Y W : List It} (h : Like (y :: Y) W) : ∃ x W', W = x :: W' ∧ y.plain = x.plain ∧ Like Y W' := by
  cases W with
  | nil => simp [Like] at h
  | cons x W' =>
    unfold Like at h ⊢
    have h2 : y.plain = x.plain ∧ Y.map It.plain = W'.map It.plain := by simpa using h
    exact ⟨x, W', rfl, h2.1, h2.2⟩
theorem Like.nil_inv {W : List It} (h : Like [] W) : W = [] := by
  cases W with
  | nil => rfl
  | cons x W' => simp [Like] at h
theorem Like.nil_inv' {Y : List It} (h : Like Y []) : Y = [] := by
  cases Y with
  | nil => rfl
  | cons x W' => simp [Like] at h
theorem Like.cut {Y W : List It} (h : Like Y W) (j : Nat) : Like (Y.take j ++ Y.drop (j + 1)) (W.take j ++ W.drop (j + 1)) := by
  unfold Like at *
  rw [List.map_append, List.map_append, List.map_take, List.map_take, List.map_drop, List.map_drop, h]
theorem Like.wf {L M : Nat → List It} (h : ∀ i, i < 8 → Like (L i) (M i)) : ∀ k, k ≤ 8 → Like (wfrom L k) (wfrom M k)
  | 0, _ => rfl
  | k + 1, hk => by
    have h1 := Like.wf h k (by omega)
    have h2 := h (7 - k) (by omega)
    unfold Like at *
    rw [wfrom, wfrom, List.map_append, List.map_append, h1, h2]
theorem Sim.waits {p : Pp} {t : Mp} (h : Sim p t) : Like p.waits t.waits := by
  have h1 := Like.wf h.L 8 (by decide)
  have h2 := h.C
  unfold Like at *
  unfold Pp.waits Mp.waits
  rw [List.map_append, List.map_append, h1, h2]
/-- what a port gives -/
inductive TakeRel (p : Pp) (T : Int) : It → Bool → Pp → Prop
  | cred (x : It) (r : List It) : p.C = x :: r → p.pc.due T = true → TakeRel p T x true { p with now := T, pc := p.pc.go T, C := r }
  | none (s : Pc) : ((p.C = [] ∧ s = p.pc) ∨ (p.C ≠ [] ∧ p.pc.due T = false ∧ s = p.pc.go T)) → (∀ i, i < 8 → p.L i = []) → TakeRel p T it0 false { p with now := T, pc := s }
  | line (s : Pc) (i : Nat) (x : It) (r : List It) : ((p.C = [] ∧ s = p.pc) ∨ (p.C ≠ [] ∧ p.pc.due T = false ∧ s = p.pc.go T)) → i < 8 → p.L i = x :: r → (∀ j, i < j → j < 8 → p.L j = []) → TakeRel p T x true { p with now := T, pc := s, u := p.u - x.sz, L := upd p.L i r }
theorem take_any (b B0 : Nat) (l : Pl) (p : Pp) (N : Nat) (now : Int) (w : World) (h : Po b B0 l p w) (ho : p.ok N) (hN : N ≤ 1000000) : Calls Try.prog 39 #[.pointer (some ⟨b, 0, none⟩), .int .i64 now] w fun e w' => ∃ x ok p', e = .returned (.tuple #[boxV x, .bool ok]) ∧ PoPost b B0 l p' w w' ∧ TakeRel p (max p.now now) x ok p' := by
  have hl := ho.lens hN
  have hu : ∀ i x r, i < 8 → p.L i = x :: r → x.sz ≤ p.u := fun i x r hi hL => by
    rw [ho.sum]
    exact usum_mem hi (by rw [hL]; exact List.mem_cons_self)
  have hu2 : p.u ≤ 1099511627776 := by have := ho.u; have := ho.room; omega
  cases hC : p.C with
  | nil =>
    refine (take_q0 b B0 l p now _ w h (by rw [hC]; rfl) rfl hu hu2).mono ?_
    rintro e w' (⟨rfl, hn, hp⟩ | ⟨i, x, r, hi, hL, hab, rfl, hp⟩)
    · exact ⟨it0, false, _, rfl, hp, .none _ (.inl ⟨hC, rfl⟩) hn⟩
    · exact ⟨x, true, _, rfl, hp, .line _ i x r (.inl ⟨hC, rfl⟩) hi hL hab⟩
  | cons x r =>
    cases hd : p.pc.due (max p.now now) with
    | true =>
      refine (take_cred b B0 l p x r now _ w h hC rfl hd hl.2).mono ?_
      rintro e w' ⟨rfl, hp⟩
      exact ⟨x, true, _, rfl, hp, .cred x r hC hd⟩
    | false =>
      refine (take_q1 b B0 l p now _ w h (by rw [hC]; simp) hd rfl hu hu2).mono ?_
      rintro e w' (⟨rfl, hn, hp⟩ | ⟨i, x, r, hi, hL, hab, rfl, hp⟩)
      · exact ⟨it0, false, _, rfl, hp, .none _ (.inr ⟨by rw [hC]; simp, hd, rfl⟩) hn⟩
      · exact ⟨x, true, _, rfl, hp, .line _ i x r (.inr ⟨by rw [hC]; simp, hd, rfl⟩) hi hL hab⟩
inductive MTakeRel (t : Mp) (T : Int) : It → Bool → Mp → Prop
  | cred (x : It) (r : List It) : t.C = x :: r → (t.ever = false ∨ (t.ever = true ∧ 4 ≤ T - t.last)) → MTakeRel t T x true { t with C := r, now := T, last := T, ever := true }
  | none : (t.C.length = 0 ∨ (0 < t.C.length ∧ t.ever = true ∧ T - t.last < 4)) → (∀ i, i < 8 → t.L i = []) → MTakeRel t T it0 false { t with now := T }
  | line (i : Nat) (x : It) (r : List It) : (t.C.length = 0 ∨ (0 < t.C.length ∧ t.ever = true ∧ T - t.last < 4)) → i < 8 → t.L i = x :: r → (∀ j, i < j → j < 8 → t.L j = []) → MTakeRel t T x true { t with now := T, L := upd t.L i r }
theorem mtake_any (m : Nat) (U : Nat → Value) (uc : Value) (t : Mp) (N : Nat) (now : Int) (w : World) (h : Mo m U uc t w) (ho : t.ok N) (hn : 0 ≤ t.now ∧ t.now ≤ 1125899906842624) (hl : 0 ≤ t.last ∧ t.last ≤ 1125899906842624) : Calls Try.prog 53 #[.pointer (some ⟨m, 0, none⟩), .int .i64 now] w fun e w' => ∃ x ok t', e = .returned (.tuple #[boxV x, .bool ok]) ∧ MoPost m t' w w' ∧ MTakeRel t (max t.now (min now 1125899906842624)) x ok t' := by
  have hb : 0 ≤ max t.now (min now 1125899906842624) ∧ max t.now (min now 1125899906842624) ≤ 1125899906842624 ∧ 0 ≤ t.last ∧ t.last ≤ 1125899906842624 := by omega
  by_cases hd : t.C.length = 0 ∨ (0 < t.C.length ∧ t.ever = true ∧ max t.now (min now 1125899906842624) - t.last < 4)
  · refine (mtake_line m U uc t N now _ w h ho rfl hd hb).mono ?_
    rintro e w' (⟨rfl, hn, hp⟩ | ⟨i, x, r, hi, hL, hab, rfl, hp⟩)
    · exact ⟨it0, false, _, rfl, hp, .none hd hn⟩
    · exact ⟨x, true, _, rfl, hp, .line i x r hd hi hL hab⟩
  · cases hC : t.C with
    | nil => exact absurd (.inl (by rw [hC]; rfl)) hd
    | cons x r =>
      have hd2 : t.ever = false ∨ (t.ever = true ∧ 4 ≤ max t.now (min now 1125899906842624) - t.last) := by
        cases he : t.ever with
        | false => exact .inl rfl
        | true => exact .inr ⟨rfl, by
            by_cases h4 : max t.now (min now 1125899906842624) - t.last < 4
            · exact absurd (.inr ⟨by rw [hC]; simp, he, h4⟩) hd
            · omega⟩
      refine (mtake_cred m U uc t x r now _ w h hC rfl hd2 hb).mono ?_
      rintro e w' ⟨rfl, hp⟩
      exact ⟨x, true, _, rfl, hp, .cred x r hC hd2⟩
theorem Sim.due {p : Pp} {t : Mp} (h : Sim p t) (T T' : Int) (hT : T = min T' 1125899906842624) (hT0 : t.now ≤ T) : p.pc.due T' = true ↔ (t.ever = false ∨ (t.ever = true ∧ 4 ≤ T - t.last)) := by
  have hn := h.n
  have ok := h.pok
  have htk : tick p.pc.n T' = T := by unfold tick; omega
  unfold Pc.due Pc.x
  rw [htk, h.ever, h.last, h.e, decide_eq_true_iff]
  cases hv : p.pc.v with
  | false =>
    have := ok.4
    simp
    have h1 := h.now
    have h2 := h.pnow
    omega
  | true =>
    simp
    omega
theorem Sim.tickT {p : Pp} {t : Mp} (h : Sim p t) {T T' : Int} (hT : T = min T' 1125899906842624) (hT0 : t.now ≤ T) : tick p.pc.n T' = T := by
  have hn := h.n
  unfold tick
  omega
theorem Sim.pc {p : Pp} {t : Mp} (h : Sim p t) {T T' : Int} (hT : T = min T' 1125899906842624) (hT0 : t.now ≤ T) (hp : 0 ≤ T') {s : Pc} (hs : s = p.pc ∨ (p.pc.due T' = false ∧ s = p.pc.go T')) : Sim { p with now := T', pc := s } { t with now := T } := by
  have htk := h.tickT hT hT0
  rcases hs with rfl | ⟨hd, rfl⟩
  · exact ⟨h.room, h.most, h.trim, h.L, h.C, hp, hT, h.e, h.ever, h.last, Int.le_trans h.n hT0, h.pok⟩
  · have hg : p.pc.go T' = ⟨p.pc.e, T, p.pc.l, p.pc.v⟩ := by
      unfold Pc.go
      rw [if_neg (by simp [hd]), htk]
    have hok := Pc.go_ok h.pok T'
    refine ⟨h.room, h.most, h.trim, h.L, h.C, hp, hT, ?_, ?_, ?_, ?_, hok⟩
    · show (p.pc.go T').e = 4
      rw [hg]; exact h.e
    · show t.ever = (p.pc.go T').v
      rw [hg]; exact h.ever
    · show t.last = (p.pc.go T').l
      rw [hg]; exact h.last
    · show (p.pc.go T').n ≤ T
      rw [hg]; exact Int.le_refl _
theorem Sim.take {p p' : Pp} {t t' : Mp} {T T' now : Int} {x x' : It} {ok ok' : Bool} (h : Sim p t) (hT' : T' = max p.now now) (hT : T = max t.now (min now 1125899906842624)) (h1 : TakeRel p T' x ok p') (h2 : MTakeRel t T x' ok' t') : ok = ok' ∧ x.plain = x'.plain ∧ Sim p' t' := by
  have hn := h.now
  have hp0 := h.pnow
  have hTT : T = min T' 1125899906842624 := by omega
  have hT0 : t.now ≤ T := by omega
  have hTp : 0 ≤ T' := by omega
  have hdue := h.due T T' hTT hT0
  have hCl := h.C.len
  cases h1 with
  | cred x r a1 a2 =>
    cases h2 with
    | cred x' r' b1 b2 =>
      have hc := h.C
      rw [a1] at hc
      obtain ⟨y, W, hw, e1, e2⟩ := hc.cons_inv
      rw [b1] at hw
      injection hw with hw1 hw2
      subst hw1
      subst hw2
      refine ⟨rfl, e1, ?_⟩
      have hg : p.pc.go T' = ⟨p.pc.e, T, T, true⟩ := by
        unfold Pc.go
        rw [if_pos a2, h.tickT hTT hT0]
      have hok := Pc.go_ok h.pok T'
      refine ⟨h.room, h.most, h.trim, h.L, e2, hTp, hTT, ?_, ?_, ?_, ?_, hok⟩
      · show (p.pc.go T').e = 4
        rw [hg]; exact h.e
      · show true = (p.pc.go T').v
        rw [hg]
      · show T = (p.pc.go T').l
        rw [hg]
      · show (p.pc.go T').n ≤ T
        rw [hg]; exact Int.le_refl _
    | none b1 b2 =>
      exfalso
      have := hdue.1 a2
      rcases b1 with b1 | ⟨b0, b1, b3⟩
      · rw [a1] at hCl; simp at hCl; omega
      · rcases this with h3 | ⟨_, h3⟩
        · rw [b1] at h3; cases h3
        · omega
    | line i x' r' b1 b2 b3 b4 =>
      exfalso
      have := hdue.1 a2
      rcases b1 with b1 | ⟨b0, b1, b3⟩
      · rw [a1] at hCl; simp at hCl; omega
      · rcases this with h3 | ⟨_, h3⟩
        · rw [b1] at h3; cases h3
        · omega
  | none s a1 a2 =>
    have hs : s = p.pc ∨ (p.pc.due T' = false ∧ s = p.pc.go T') := by
      rcases a1 with ⟨_, h3⟩ | ⟨_, h3, h4⟩
      · exact .inl h3
      · exact .inr ⟨h3, h4⟩
    cases h2 with
    | cred x' r' b1 b2 =>
      exfalso
      rcases a1 with ⟨h3, _⟩ | ⟨h3, h4, _⟩
      · rw [h3, b1] at hCl; simp at hCl
      · have := hdue.2 b2
        rw [this] at h4; cases h4
    | none b1 b2 => exact ⟨rfl, rfl, h.pc hTT hT0 hTp hs⟩
    | line i x' r' b1 b2 b3 b4 =>
      exfalso
      have := h.L i b2
      rw [a2 i b2, b3] at this
      simp [Like] at this
  | line s i x r a1 a2 a3 a4 =>
    have hs : s = p.pc ∨ (p.pc.due T' = false ∧ s = p.pc.go T') := by
      rcases a1 with ⟨_, h3⟩ | ⟨_, h3, h4⟩
      · exact .inl h3
      · exact .inr ⟨h3, h4⟩
    cases h2 with
    | cred x' r' b1 b2 =>
      exfalso
      rcases a1 with ⟨h3, _⟩ | ⟨h3, h4, _⟩
      · rw [h3, b1] at hCl; simp at hCl
      · have := hdue.2 b2
        rw [this] at h4; cases h4
    | none b1 b2 =>
      exfalso
      have := h.L i a2
      rw [b2 i a2, a3] at this
      simp [Like] at this
    | line j x' r' b1 b2 b3 b4 =>
      have hij : i = j := by
        rcases Nat.lt_trichotomy i j with h3 | h3 | h3
        · have := h.L j b2
          rw [a4 j h3 b2, b3] at this
          simp [Like] at this
        · exact h3
        · have := h.L i a2
          rw [b4 i h3 a2, a3] at this
          simp [Like] at this
      subst hij
      have hc := h.L i a2
      rw [a3] at hc
      obtain ⟨y, W, hw, e1, e2⟩ := hc.cons_inv
      rw [b3] at hw
      injection hw with hw1 hw2
      subst hw1
      subst hw2
      exact ⟨rfl, e1, (h.pc hTT hT0 hTp hs).lineL e2 _⟩
theorem TakeRel.ok {N : Nat} {p p' : Pp} {T : Int} {x : It} {b : Bool} (h : TakeRel p T x b p') (hp : p.ok N) : p'.ok N := by
  have hl := hp.len
  cases h with
  | cred x r a1 _ =>
    refine ⟨hp.room, hp.u, hp.sum, ?_, fun z hz => ?_⟩
    · show (wfrom p.L 8 ++ r).length ≤ N
      unfold Pp.waits at hl
      rw [a1] at hl
      simp only [List.length_append, List.length_cons] at *
      omega
    · rcases hz with hz | hz
      · exact hp.items z (.inl (by rw [a1]; exact List.mem_cons_of_mem _ hz))
      · exact hp.items z (.inr hz)
  | none s _ _ => exact ⟨hp.room, hp.u, hp.sum, hp.len, hp.items⟩
  | line s i x r _ a2 a3 a4 =>
    have hw := wfrom_pop a2 a3 a4
    have hxs := szIt x
    refine ⟨hp.room, by show p.u - x.sz ≤ p.room; have := hp.u; omega, ?_, ?_, fun z hz => ?_⟩
    · show p.u - x.sz = usum (upd p.L i r)
      rw [usum_upd _ a2, a3, sumZ_cons, hp.sum]
      omega
    · show (wfrom (upd p.L i r) 8 ++ p.C).length ≤ N
      unfold Pp.waits at hl
      rw [hw] at hl
      simp only [List.length_append, List.length_cons] at *
      omega
    · rcases hz with hz | ⟨j, hj, hz⟩
      · exact hp.items z (.inl hz)
      · replace hz : z ∈ upd p.L i r j := hz
        by_cases hji : j = i
        · subst hji
          rw [upd_same] at hz
          exact hp.items z (.inr ⟨j, hj, by rw [a3]; exact List.mem_cons_of_mem _ hz⟩)
        · rw [upd_other _ _ hji] at hz
          exact hp.items z (.inr ⟨j, hj, hz⟩)
theorem Mp.ok.sub {N : Nat} {t t' : Mp} (ht : t.ok N) (hL : ∀ i, i < 8 → (t'.L i).length ≤ (t.L i).length ∧ ∀ z ∈ t'.L i, z ∈ t.L i) (hC : t'.C.length ≤ t.C.length ∧ ∀ z ∈ t'.C, z ∈ t.C) : t'.ok N := by
  refine ⟨fun z hz => ?_, fun i hi => Nat.le_trans (hL i hi).1 (ht.len i hi), Nat.le_trans hC.1 ht.clen⟩
  rcases hz with hz | ⟨i, hi, hz⟩
  · exact ht.items z (.inl (hC.2 z hz))
  · exact ht.items z (.inr ⟨i, hi, (hL i hi).2 z hz⟩)
theorem upd_sub {L : Nat → List It} {i : Nat} {l : List It} (h1 : l.length ≤ (L i).length) (h2 : ∀ z ∈ l, z ∈ L i) : ∀ j, j < 8 → (upd L i l j).length ≤ (L j).length ∧ ∀ z ∈ upd L i l j, z ∈ L j := fun j _ => by
  by_cases hji : j = i
  · subst hji; rw [upd_same]; exact ⟨h1, h2⟩
  · rw [upd_other _ _ hji]; exact ⟨Nat.le_refl _, fun z hz => hz⟩
theorem MTakeRel.ok {N : Nat} {t t' : Mp} {T : Int} {x : It} {b : Bool} (h : MTakeRel t T x b t') (ht : t.ok N) : t'.ok N := by
  cases h with
  | cred x r a1 _ => exact ht.sub (fun i _ => ⟨Nat.le_refl _, fun z hz => hz⟩) ⟨by rw [a1]; simp, fun z hz => by rw [a1]; exact List.mem_cons_of_mem _ hz⟩
  | none _ _ => exact ht.sub (fun i _ => ⟨Nat.le_refl _, fun z hz => hz⟩) ⟨Nat.le_refl _, fun z hz => hz⟩
  | line i x r _ _ a3 _ => exact ht.sub (upd_sub (by rw [a3]; simp) (fun z hz => by rw [a3]; exact List.mem_cons_of_mem _ hz)) ⟨Nat.le_refl _, fun z hz => hz⟩
theorem MPutRel.ok {N : Nat} {t t' : Mp} {x : It} {r : Int} (h : MPutRel t x r t') (ht : t.ok N) (hx : x.ok2) : t'.ok (N + 1) := by
  have up : ∀ {i : Nat} {y : It}, y.ok2 → ({ t with L := upd t.L i (t.L i ++ [y]) } : Mp).ok (N + 1) := fun {i y} hy => by
    refine ⟨fun z hz => ?_, fun j hj => ?_, Nat.le_succ_of_le ht.clen⟩
    · rcases hz with hz | ⟨j, hj, hz⟩
      · exact ht.items z (.inl hz)
      · replace hz : z ∈ upd t.L i (t.L i ++ [y]) j := hz
        by_cases hji : j = i
        · subst hji
          rw [upd_same] at hz
          rcases List.mem_append.1 hz with hz | hz
          · exact ht.items z (.inr ⟨j, hj, hz⟩)
          · rw [List.mem_singleton.1 hz]; exact hy
        · rw [upd_other _ _ hji] at hz
          exact ht.items z (.inr ⟨j, hj, hz⟩)
    · show (upd t.L i (t.L i ++ [y]) j).length ≤ N + 1
      have := ht.len j hj
      by_cases hji : j = i
      · subst hji
        rw [upd_same, List.length_append, List.length_singleton]
        omega
      · rw [upd_other _ _ hji]
        omega
  have mono : t.ok (N + 1) := ⟨ht.items, fun i hi => Nat.le_succ_of_le (ht.len i hi), Nat.le_succ_of_le ht.clen⟩
  cases h with
  | full _ _ => exact mono
  | drop _ _ _ => exact mono
  | cred _ _ =>
    refine ⟨fun z hz => ?_, fun i hi => Nat.le_succ_of_le (ht.len i hi), ?_⟩
    · rcases hz with hz | hz
      · rcases List.mem_append.1 hz with hz | hz
        · exact ht.items z (.inl hz)
        · rw [List.mem_singleton.1 hz]; exact hx
      · exact ht.items z (.inr hz)
    · show (t.C ++ [x]).length ≤ _
      rw [List.length_append, List.length_singleton]
      have := ht.clen
      omega
  | line i _ _ _ _ => exact up hx
  | trim _ _ _ _ => exact up ⟨Nat.zero_le _, hx.len⟩
end Go.Proofs.Ytoihhidoafgoaaa
/- The port and the document's port side by side (chapter 13): Drop, Double. -/
namespace Go.Proofs.Ytoihhidoafgoaaa
open Go.RowKit

inductive DropRel (p : Pp) (k : Nat) : It → Pp → Prop
  | line (i j : Nat) (hj : j < (p.L i).length) : i < 8 → k = (wfrom p.L (7 - i)).length + j → DropRel p k (p.L i)[j] { p with u := p.u - (p.L i)[j].sz, L := upd p.L i ((p.L i).take j ++ (p.L i).drop (j + 1)) }
  | cred (j : Nat) (hj : j < p.C.length) : k = (wfrom p.L 8).length + j → DropRel p k p.C[j] { p with C := p.C.take j ++ p.C.drop (j + 1) }
inductive MDropRel (t : Mp) (k : Nat) : It → Mp → Prop
  | line (i j : Nat) (hj : j < (t.L i).length) : i < 8 → k = (wfrom t.L (7 - i)).length + j → MDropRel t k (t.L i)[j] { t with L := upd t.L i ((t.L i).take j ++ (t.L i).drop (j + 1)) }
  | cred (j : Nat) (hj : j < t.C.length) : k = (wfrom t.L 8).length + j → MDropRel t k t.C[j] { t with C := t.C.take j ++ t.C.drop (j + 1) }
theorem drop_any (b B0 : Nat) (l : Pl) (p : Pp) (N k : Nat) (w : World) (h : Po b B0 l p w) (ho : p.ok N) (hN : N ≤ 1000000) (hk : k < p.waits.length) : Calls Try.prog 46 #[.pointer (some ⟨b, 0, none⟩), .int .i64 k] w fun e w' => ∃ x p', e = .returned (.tuple #[boxV x, .bool true]) ∧ PoPost b B0 l p' w w' ∧ DropRel p k x p' := by
  refine (drop_yes b B0 l p k w h (ho.lens hN) hk (fun i hi x hx => by rw [ho.sum]; exact usum_mem hi hx) (by have := ho.u; have := ho.room; omega)).mono ?_
  rintro e w' (⟨i, j, hj, hi, hkk, rfl, hp⟩ | ⟨j, hj, hkk, rfl, hp⟩)
  · exact ⟨_, _, rfl, hp, .line i j hj hi hkk⟩
  · exact ⟨_, _, rfl, hp, .cred j hj hkk⟩
theorem mdrop_any (m : Nat) (U : Nat → Value) (uc : Value) (t : Mp) (N k : Nat) (w : World) (h : Mo m U uc t w) (ho : t.ok N) (hN : N ≤ 100000) (hk : k < t.waits.length) : Calls Try.prog 55 #[.pointer (some ⟨m, 0, none⟩), .int .i64 k] w fun e w' => ∃ x t', e = .returned (.tuple #[boxV x, .bool true]) ∧ MoPost m t' w w' ∧ MDropRel t k x t' := by
  have hkm : k ≤ 9223372036854775807 := by
    have h1 := wfrom_len t.L N ho.len 8 (by decide)
    unfold Mp.waits at hk
    rw [List.length_append] at hk
    have := ho.clen
    omega
  refine (mdrop m U uc t N k w h ho hN hkm).mono ?_
  rintro e w' (⟨i, j, hj, hi, hkk, rfl, hp⟩ | ⟨j, hj, hkk, rfl, hp⟩ | ⟨h1, _⟩)
  · exact ⟨_, _, rfl, hp, .line i j hj hi hkk⟩
  · exact ⟨_, _, rfl, hp, .cred j hj hkk⟩
  · omega
theorem wl_mono (L : Nat → List It) {a b : Nat} (h : a ≤ b) : (wfrom L a).length ≤ (wfrom L b).length := by
  induction b with
  | zero => obtain rfl : a = 0 := by omega
            exact Nat.le_refl _
  | succ b ih =>
    rcases Nat.lt_or_ge a (b + 1) with h1 | h1
    · have := ih (by omega)
      rw [wfrom, List.length_append]
      omega
    · obtain rfl : a = b + 1 := by omega
      exact Nat.le_refl _
theorem wl_step (L : Nat → List It) {i : Nat} (hi : i < 8) : (wfrom L (7 - i + 1)).length = (wfrom L (7 - i)).length + (L i).length := by
  rw [wfrom, List.length_append, show 7 - (7 - i) = i by omega]
theorem wl_uniq (L : Nat → List It) {i j i' j' : Nat} (hi : i < 8) (hi' : i' < 8) (hj : j < (L i).length) (hj' : j' < (L i').length) (h : (wfrom L (7 - i)).length + j = (wfrom L (7 - i')).length + j') : i = i' ∧ j = j' := by
  rcases Nat.lt_trichotomy i i' with h1 | h1 | h1
  · have h2 := wl_mono L (show 7 - i' + 1 ≤ 7 - i by omega)
    rw [wl_step L hi'] at h2
    omega
  · subst h1
    exact ⟨rfl, by omega⟩
  · have h2 := wl_mono L (show 7 - i + 1 ≤ 7 - i' by omega)
    rw [wl_step L hi] at h2
    omega
theorem wl_top (L : Nat → List It) {i j : Nat} (hi : i < 8) (hj : j < (L i).length) : (wfrom L (7 - i)).length + j < (wfrom L 8).length := by
  have h2 := wl_mono L (show 7 - i + 1 ≤ 8 by omega)
  rw [wl_step L hi] at h2
  omega
theorem Sim.drop {p p' : Pp} {t t' : Mp} {k : Nat} {x x' : It} (h : Sim p t) (h1 : DropRel p k x p') (h2 : MDropRel t k x' t') : x.plain = x'.plain ∧ Sim p' t' := by
  have hw : ∀ a, a ≤ 8 → (wfrom p.L a).length = (wfrom t.L a).length := fun a ha => (Like.wf h.L a ha).len
  have hl : ∀ i, i < 8 → (p.L i).length = (t.L i).length := fun i hi => (h.L i hi).len
  cases h1 with
  | line i j hj hi hk =>
    cases h2 with
    | line i' j' hj' hi' hk' =>
      obtain ⟨rfl, rfl⟩ := wl_uniq t.L hi hi' (by rw [← hl i hi]; exact hj) hj' (by rw [← hw (7 - i) (by omega)]; omega)
      obtain ⟨_, he⟩ := (h.L i hi).nth j hj
      exact ⟨he, h.lineL ((h.L i hi).cut j) _⟩
    | cred j' hj' hk' =>
      have := wl_top p.L hi hj
      rw [hw 8 (by decide)] at this
      omega
  | cred j hj hk =>
    cases h2 with
    | line i' j' hj' hi' hk' =>
      have := wl_top t.L hi' hj'
      rw [← hw 8 (by decide)] at this
      omega
    | cred j' hj' hk' =>
      have hjj : j = j' := by have := hw 8 (by decide); omega
      subst hjj
      obtain ⟨_, he⟩ := h.C.nth j hj
      exact ⟨he, h.cred (h.C.cut j)⟩
theorem sumZ_cut : ∀ (l : List It) (j : Nat) (hj : j < l.length), sumZ (l.take j ++ l.drop (j + 1)) = sumZ l - l[j].sz
  | x :: l, 0, _ => by
    rw [sumZ_cons]
    simp
    omega
  | x :: l, j + 1, hj => by
    have ih := sumZ_cut l j (by simpa using hj)
    have h1 : (x :: l).take (j + 1) ++ (x :: l).drop (j + 1 + 1) = x :: (l.take j ++ l.drop (j + 1)) := by simp
    rw [h1, sumZ_cons, sumZ_cons, ih]
    simp
    omega
theorem cut_sub {l : List It} {j : Nat} (hj : j < l.length) : (l.take j ++ l.drop (j + 1)).length ≤ l.length ∧ ∀ z ∈ l.take j ++ l.drop (j + 1), z ∈ l := by
  refine ⟨by rw [List.length_append, List.length_take, List.length_drop]; omega, fun z hz => ?_⟩
  rcases List.mem_append.1 hz with hz | hz
  · exact List.mem_of_mem_take hz
  · exact List.mem_of_mem_drop hz
theorem wfrom_sub {L : Nat → List It} {i : Nat} {l : List It} (h : l.length ≤ (L i).length) : ∀ k, (wfrom (upd L i l) k).length ≤ (wfrom L k).length
  | 0 => Nat.le_refl _
  | k + 1 => by
    rw [wfrom, wfrom, List.length_append, List.length_append]
    have h1 := wfrom_sub h k
    have h2 : (upd L i l (7 - k)).length ≤ (L (7 - k)).length := by
      by_cases hk : 7 - k = i
      · rw [hk, upd_same]; exact h
      · rw [upd_other _ _ hk]; exact Nat.le_refl _
    omega
theorem DropRel.ok {N : Nat} {p p' : Pp} {k : Nat} {x : It} (h : DropRel p k x p') (hp : p.ok N) : p'.ok N := by
  have hl := hp.len
  unfold Pp.waits at hl
  rw [List.length_append] at hl
  cases h with
  | line i j hj hi _ =>
    have hc := cut_sub hj
    have hxs := szIt (p.L i)[j]
    refine ⟨hp.room, by show p.u - (p.L i)[j].sz ≤ p.room; have := hp.u; omega, ?_, ?_, fun z hz => ?_⟩
    · show p.u - (p.L i)[j].sz = usum (upd p.L i _)
      rw [usum_upd _ hi, sumZ_cut _ _ hj, hp.sum]
      omega
    · show (wfrom (upd p.L i _) 8 ++ p.C).length ≤ N
      rw [List.length_append]
      have := wfrom_sub (L := p.L) hc.1 8
      omega
    · rcases hz with hz | ⟨q, hq, hz⟩
      · exact hp.items z (.inl hz)
      · exact hp.items z (.inr ⟨q, hq, (upd_sub hc.1 hc.2 q hq).2 z hz⟩)
  | cred j hj _ =>
    have hc := cut_sub hj
    refine ⟨hp.room, hp.u, hp.sum, ?_, fun z hz => ?_⟩
    · have h2 := hc.1
      show (wfrom p.L 8 ++ (p.C.take j ++ p.C.drop (j + 1))).length ≤ N
      have h3 : (wfrom p.L 8 ++ (p.C.take j ++ p.C.drop (j + 1))).length = (wfrom p.L 8).length + (p.C.take j ++ p.C.drop (j + 1)).length := List.length_append
      omega
    · rcases hz with hz | hz
      · exact hp.items z (.inl (hc.2 z hz))
      · exact hp.items z (.inr hz)
theorem MDropRel.ok {N : Nat} {t t' : Mp} {k : Nat} {x : It} (h : MDropRel t k x t') (ht : t.ok N) : t'.ok N := by
  cases h with
  | line i j hj hi _ => exact ht.sub (upd_sub (cut_sub hj).1 (cut_sub hj).2) ⟨Nat.le_refl _, fun z hz => hz⟩
  | cred j hj _ => exact ht.sub (fun i _ => ⟨Nat.le_refl _, fun z hz => hz⟩) (cut_sub hj)
theorem Sim.new (room credits : Int) (trim : Bool) : Sim (newP room credits trim) (newM room credits trim) :=
  ⟨rfl, rfl, rfl, fun _ _ => rfl, rfl, by show (0 : Int) ≤ 0; decide, by show (0 : Int) = min 0 1125899906842624; decide, rfl, rfl, rfl, by show (0 : Int) ≤ 0; decide, pc4_ok⟩
theorem newP_ok (room credits : Int) (trim : Bool) (h : 0 ≤ room ∧ room ≤ 1073741824) : (newP room credits trim).ok 0 :=
  ⟨by show 0 ≤ room ∧ room ≤ 1099511627776; omega, by show (0 : Int) ≤ room; omega, rfl, Nat.le_refl _, fun x hx => by
    rcases hx with hx | ⟨i, _, hx⟩
    · cases hx
    · cases hx⟩
theorem newM_ok (room credits : Int) (trim : Bool) : (newM room credits trim).ok 0 := by
  refine ⟨fun x hx => ?_, fun _ _ => Nat.le_refl _, Nat.le_refl _⟩
  rcases hx with hx | ⟨i, _, hx⟩
  · cases hx
  · cases hx
end Go.Proofs.Ytoihhidoafgoaaa
/- The law's own comparisons (port, chapter 13): same. -/
namespace Go.Proofs.Ytoihhidoafgoaaa
open Go.RowKit

theorem plain_eq {y x : It} (h : y.plain = x.plain) : y = x.data y.da y.dc := by
  cases y
  cases x
  simp only [It.plain, It.mk.injEq] at h
  obtain ⟨h1, h2, h3, h4, h5, h6, h7, h8, h9, _, h10, _, h11, h12⟩ := h
  subst h1 h2 h3 h4 h5 h6 h7 h8 h9 h10 h11 h12
  rfl
set_option maxRecDepth 100000 in
set_option maxHeartbeats 4000000 in
theorem msame (x : It) (a : Option Addr) (c : Nat) (w : World) (hl : x.dn = x.bs.length) (hy : Rd w 1 (.slice a x.dn c) x.dn (bcells x.bs)) (hx : Rd w 1 (.slice x.da x.dn x.dc) x.dn (bcells x.bs)) : Calls Try.prog 24 #[(x.data a c).frv, x.frv] w fun e w' => e = .returned (.bool true) ∧ Below w.heap.size w w' := by
  obtain ⟨L, HL⟩ : ∃ L, Hid (x.bs = L) := ⟨_, Lib.hid rfl⟩
  obtain ⟨D, HD⟩ : ∃ D, Hid (x.dn = D) := ⟨_, Lib.hid rfl⟩
  rw [HL.out, HD.out] at hl hy hx
  have HLL := Lib.hid hl
  rw [HLL.out] at hy hx HD
  clear hl
  show Calls Try.prog 24 #[.agg #[.int .i64 x.kind, .int .i64 x.src, .int .i64 x.dst, .int .i64 x.prio, .int .u64 x.msg, .int .i64 x.off, .int .i64 x.len, .int .i64 x.total, .int .i64 x.num, .slice a x.dn c], .agg #[.int .i64 x.kind, .int .i64 x.src, .int .i64 x.dst, .int .i64 x.prio, .int .u64 x.msg, .int .i64 x.off, .int .i64 x.len, .int .i64 x.total, .int .i64 x.num, .slice x.da x.dn x.dc]] w _
  rw [HD.out]
  have HYR := Lib.hid hy
  have HXR := Lib.hid hx
  clear hy hx
  have HB := Lib.hid (((Below.refl w.heap.size w).alloc (Nat.le_refl _) (.cells #[.int .i64 x.kind, .int .i64 x.src, .int .i64 x.dst, .int .i64 x.prio, .int .u64 x.msg, .int .i64 x.off, .int .i64 x.len, .int .i64 x.total, .int .i64 x.num, .slice a L.length c] TFr)).alloc (by rw [World.size_alloc]; omega) (.cells #[.int .i64 x.kind, .int .i64 x.src, .int .i64 x.dst, .int .i64 x.prio, .int .u64 x.msg, .int .i64 x.off, .int .i64 x.len, .int .i64 x.total, .int .i64 x.num, .slice x.da L.length x.dc] TFr))
  go_enter Try.func24, Try.ntmps24
  go_wp2_with (first | (refine wpList_str rfl _ _ (.tmp 68) rfl Try.underlying32 Try.underlying5 Try.underlying9 (HYR.out.below HB.out) rfl ?_) | (refine wpList_str rfl _ _ (.tmp 71) rfl Try.underlying32 Try.underlying5 Try.underlying9 (HXR.out.below HB.out) rfl ?_))
  go_ret
  exact ⟨rfl, HB.out⟩
end Go.Proofs.Ytoihhidoafgoaaa
/- The law's own comparisons (port, chapter 13): shows. -/
namespace Go.Proofs.Ytoihhidoafgoaaa
open Go.RowKit

/-- the data of the document's items: the caller's -/
def Dat (W0 : World) (t : Mp) : Prop := ∀ x, t.has x → x.dn = x.bs.length ∧ Rd W0 1 (.slice x.da x.dn x.dc) x.dn (bcells x.bs)
theorem mem_mwaits {t : Mp} {x : It} (h : x ∈ t.waits) : t.has x := by
  rcases List.mem_append.1 h with h | h
  · obtain ⟨i, hi, h⟩ := wfrom_of h
    exact .inr ⟨i, hi, h⟩
  · exact .inl h
end Go.Proofs.Ytoihhidoafgoaaa
/- A port and the document's port, side by side: what calls keep of both. -/
namespace Go.Proofs.Ytoihhidoafgoaaa
open Go.RowKit

section
variable {b B0 m : Nat} {l : Pl} {p p' : Pp} {U : Nat → Value} {uc : Value} {t t' : Mp} {w w' : World}
theorem Po.pmT (h : Po b B0 l p w) {g : Nat} (hg : PM b l g) : ∃ T, Ty w g T ∧ T ≠ TX ∧ T ≠ TM := by
  rcases hg with rfl | rfl | hx | hx
  · exact ⟨_, h.ob.ty, by decide, by decide⟩
  · exact ⟨_, Ob.ty h.pc, by decide, by decide⟩
  · exact ⟨_, own_ty h.own hx, by decide, by decide⟩
  · rcases h.qu.ty hx with h | h
    · exact ⟨_, h, by decide, by decide⟩
    · exact ⟨_, h, by decide, by decide⟩
theorem Po.noT (h : Po b B0 l p w) {g : Nat} (hg : PM b l g) {T : TypeId} (hT : Ty w g T) (hn : T ≠ TPt ∧ T ≠ 140 ∧ T ≠ TIt ∧ T ≠ 138 ∧ T ≠ 142) : False := by
  obtain ⟨h1, h2, h3, h4, h5⟩ := hn
  rcases hg with rfl | rfl | hx | hx
  · exact h1 (hT.one h.ob.ty)
  · exact h2 (hT.one (Ob.ty h.pc))
  · exact h3 (hT.one (own_ty h.own hx))
  · rcases h.qu.ty hx with h | h
    · exact h4 (hT.one h)
    · exact h5 (hT.one h)
theorem Mo.ofPo (hm : Mo m U uc t w) (hp : Po b B0 l p w) (hk : Kept (PM b l) w w') : Mo m U uc t w' := by
  refine hm.kept hk (fun hh => ?_) (fun g hg _ => ?_)
  · obtain ⟨T, h1, _, h3⟩ := hp.pmT hh
    exact h3 (h1.one hm.ob.ty)
  · obtain ⟨T, h1, h2, _⟩ := hp.pmT hg
    exact ⟨T, h1, h2⟩
theorem Po.ofMo (hp : Po b B0 l p w) (hm : Mo m U uc t w) (hk : Kept (Only m) w w') : Po b B0 l p w' := by
  refine hp.kept hk (fun x hx hh => ?_) (fun g hg _ => ⟨TM, by rw [show g = m from hg]; exact hm.ob.ty, by decide⟩)
  obtain ⟨T, h1, _, h3⟩ := hp.pmT hx
  have : x = m := hh
  subst this
  exact h3 (h1.one hm.ob.ty)
end
theorem mnew2 (room credits : Int) (trim : Bool) (w : World) (h : 0 ≤ room ∧ room ≤ 1073741824) (h2 : 0 ≤ credits ∧ credits ≤ 1073741824) : Calls Try.prog 50 #[.int .i64 room, .int .i64 credits, .bool trim] w fun e w' => ∃ m U uc, e = .returned (.tuple #[.pointer (some ⟨m, 0, none⟩), .int .i64 0]) ∧ Mo m U uc (newM room credits trim) w' ∧ Below w.heap.size w w' ∧ w.heap.size ≤ m := by
  obtain ⟨h3, h4⟩ := h
  obtain ⟨h5, h6⟩ := h2
  go_enter Try.func50, Try.ntmps50
  go_wp2_with fail
  go_ret2
  refine ⟨_, fun _ => .slice none 0 0, .slice none 0 0, rfl, ⟨Ob.new _ _ _, fun i _ => ⟨.inl ⟨rfl, rfl, rfl⟩, fun a n c hv => (by cases hv)⟩, ⟨.inl ⟨rfl, rfl, rfl⟩, fun a n c hv => (by cases hv)⟩⟩, (Below.refl _ _).alloc (Nat.le_refl _) _, Nat.le_refl _⟩
theorem MPutRel.dat {W0 : World} {t t' : Mp} {x : It} {r : Int} (h : MPutRel t x r t') (hd : Dat W0 t) (hx : x.dn = x.bs.length ∧ Rd W0 1 (.slice x.da x.dn x.dc) x.dn (bcells x.bs)) : Dat W0 t' := by
  have up : ∀ {i : Nat} {y : It}, (y.dn = y.bs.length ∧ Rd W0 1 (.slice y.da y.dn y.dc) y.dn (bcells y.bs)) → Dat W0 { t with L := upd t.L i (t.L i ++ [y]) } := fun {i y} hy z hz => by
    rcases hz with hz | ⟨j, hj, hz⟩
    · exact hd z (.inl hz)
    · replace hz : z ∈ upd t.L i (t.L i ++ [y]) j := hz
      by_cases hji : j = i
      · subst hji
        rw [upd_same] at hz
        rcases List.mem_append.1 hz with hz | hz
        · exact hd z (.inr ⟨j, hj, hz⟩)
        · rw [List.mem_singleton.1 hz]; exact hy
      · rw [upd_other _ _ hji] at hz
        exact hd z (.inr ⟨j, hj, hz⟩)
  cases h with
  | full _ _ => exact hd
  | drop _ _ _ => exact hd
  | cred _ _ =>
    intro z hz
    rcases hz with hz | hz
    · rcases List.mem_append.1 hz with hz | hz
      · exact hd z (.inl hz)
      · rw [List.mem_singleton.1 hz]; exact hx
    · exact hd z (.inr hz)
  | line i _ _ _ _ => exact up hx
  | trim _ _ _ _ => exact up ⟨rfl, .inl ⟨rfl, rfl, rfl⟩⟩
theorem Dat.sub {W0 : World} {t t' : Mp} (hd : Dat W0 t) (h : ∀ z, t'.has z → t.has z) : Dat W0 t' := fun z hz => hd z (h z hz)
theorem MTakeRel.has {t t' : Mp} {T : Int} {x : It} {b : Bool} (h : MTakeRel t T x b t') : (∀ z, t'.has z → t.has z) ∧ (x = it0 ∨ t.has x) := by
  cases h with
  | cred x r a1 _ =>
    refine ⟨fun z hz => ?_, .inr (.inl (by rw [a1]; exact List.mem_cons_self))⟩
    rcases hz with hz | hz
    · exact .inl (by rw [a1]; exact List.mem_cons_of_mem _ hz)
    · exact .inr hz
  | none _ _ => exact ⟨fun z hz => hz, .inl rfl⟩
  | line i x r _ hi a3 _ =>
    refine ⟨fun z hz => ?_, .inr (.inr ⟨i, hi, by rw [a3]; exact List.mem_cons_self⟩)⟩
    rcases hz with hz | ⟨j, hj, hz⟩
    · exact .inl hz
    · exact .inr ⟨j, hj, (upd_sub (L := t.L) (by rw [a3]; simp) (fun z hz => by rw [a3]; exact List.mem_cons_of_mem _ hz) j hj).2 z hz⟩
theorem TakeRel.has {p p' : Pp} {T : Int} {x : It} {b : Bool} (h : TakeRel p T x b p') : x = it0 ∨ p.has x := by
  cases h with
  | cred x r a1 _ => exact .inr (.inl (by rw [a1]; exact List.mem_cons_self))
  | none _ _ _ => exact .inl rfl
  | line s i x r _ hi a3 _ => exact .inr (.inr ⟨i, hi, by rw [a3]; exact List.mem_cons_self⟩)
def DropB (p : Pp) (k : Int) (x : It) (ok : Bool) (p' : Pp) : Prop := ((k < 0 ∨ (p.waits.length : Int) ≤ k) ∧ x = it0 ∧ ok = false ∧ p' = p) ∨ (0 ≤ k ∧ k < p.waits.length ∧ ok = true ∧ DropRel p k.toNat x p')
def MDropB (t : Mp) (k : Int) (x : It) (ok : Bool) (t' : Mp) : Prop := ((k < 0 ∨ (t.waits.length : Int) ≤ k) ∧ x = it0 ∧ ok = false ∧ t' = t) ∨ (0 ≤ k ∧ k < t.waits.length ∧ ok = true ∧ MDropRel t k.toNat x t')
theorem dropB (b B0 : Nat) (l : Pl) (p : Pp) (N : Nat) (k : Int) (w : World) (h : Po b B0 l p w) (ho : p.ok N) (hN : N ≤ 1000000) : Calls Try.prog 46 #[.pointer (some ⟨b, 0, none⟩), .int .i64 k] w fun e w' => ∃ x ok p', e = .returned (.tuple #[boxV x, .bool ok]) ∧ PoPost b B0 l p' w w' ∧ DropB p k x ok p' := by
  by_cases hk : k < 0 ∨ (p.waits.length : Int) ≤ k
  · refine (drop_no b B0 l p k w h (ho.lens hN) hk).mono ?_
    rintro e w' ⟨rfl, hb⟩
    exact ⟨it0, false, p, rfl, PoPost.same h hb, .inl ⟨hk, rfl, rfl, rfl⟩⟩
  · obtain ⟨q, rfl⟩ := Int.eq_ofNat_of_zero_le (show 0 ≤ k by omega)
    refine (drop_any b B0 l p N q w h ho hN (by omega)).mono ?_
    rintro e w' ⟨x, p', rfl, hp, hr⟩
    exact ⟨x, true, p', rfl, hp, .inr ⟨by omega, by omega, rfl, hr⟩⟩
theorem mdropB (m : Nat) (U : Nat → Value) (uc : Value) (t : Mp) (N : Nat) (k : Int) (w : World) (h : Mo m U uc t w) (ho : t.ok N) (hN : N ≤ 100000) (hk2 : k ≤ 9223372036854775807) : Calls Try.prog 55 #[.pointer (some ⟨m, 0, none⟩), .int .i64 k] w fun e w' => ∃ x ok t', e = .returned (.tuple #[boxV x, .bool ok]) ∧ MoPost m t' w w' ∧ MDropB t k x ok t' := by
  by_cases hk : k < 0
  · refine (mdrop_neg m k w hk).mono ?_
    rintro e w' ⟨rfl, hb⟩
    exact ⟨it0, false, t, rfl, MoPost.same h hb, .inl ⟨.inl hk, rfl, rfl, rfl⟩⟩
  · obtain ⟨q, rfl⟩ := Int.eq_ofNat_of_zero_le (show 0 ≤ k by omega)
    by_cases hq : q < t.waits.length
    · refine (mdrop_any m U uc t N q w h ho hN hq).mono ?_
      rintro e w' ⟨x, t', rfl, hp, hr⟩
      exact ⟨x, true, t', rfl, hp, .inr ⟨by omega, by omega, rfl, hr⟩⟩
    · refine (mdrop m U uc t N q w h ho hN (by omega)).mono ?_
      rintro e w' (⟨i, jj, hj, hi, hkk, _⟩ | ⟨jj, hj, hkk, _⟩ | ⟨h1, rfl, hb⟩)
      · exfalso
        have := wl_top t.L hi hj
        unfold Mp.waits at hq
        rw [List.length_append] at hq
        omega
      · exfalso
        unfold Mp.waits at hq
        rw [List.length_append] at hq
        omega
      · exact ⟨it0, false, t, rfl, MoPost.same h hb, .inl ⟨.inr (by omega), rfl, rfl, rfl⟩⟩
theorem Sim.dropB {p p' : Pp} {t t' : Mp} {k : Int} {x x' : It} {ok ok' : Bool} (h : Sim p t) (h1 : DropB p k x ok p') (h2 : MDropB t k x' ok' t') : ok = ok' ∧ x.plain = x'.plain ∧ Sim p' t' := by
  have hl := h.waits.len
  rcases h1 with ⟨a1, rfl, rfl, rfl⟩ | ⟨a1, a2, rfl, a3⟩
  · rcases h2 with ⟨b1, rfl, rfl, rfl⟩ | ⟨b1, b2, rfl, b3⟩
    · exact ⟨rfl, rfl, h⟩
    · omega
  · rcases h2 with ⟨b1, rfl, rfl, rfl⟩ | ⟨b1, b2, rfl, b3⟩
    · omega
    · have := h.drop a3 b3
      exact ⟨rfl, this.1, this.2⟩
theorem DropB.ok {N : Nat} {p p' : Pp} {k : Int} {x : It} {ok : Bool} (h : DropB p k x ok p') (hp : p.ok N) : p'.ok N := by
  rcases h with ⟨_, _, _, rfl⟩ | ⟨_, _, _, h⟩
  · exact hp
  · exact h.ok hp
theorem MDropB.ok {N : Nat} {t t' : Mp} {k : Int} {x : It} {ok : Bool} (h : MDropB t k x ok t') (hp : t.ok N) : t'.ok N := by
  rcases h with ⟨_, _, _, rfl⟩ | ⟨_, _, _, h⟩
  · exact hp
  · exact h.ok hp
theorem DropB.has {p p' : Pp} {k : Int} {x : It} {ok : Bool} (h : DropB p k x ok p') : x = it0 ∨ p.has x := by
  rcases h with ⟨_, h, _, _⟩ | ⟨_, _, _, h⟩
  · exact .inl h
  · cases h with
    | line i j hj hi _ => exact .inr (.inr ⟨i, hi, List.getElem_mem hj⟩)
    | cred j hj _ => exact .inr (.inl (List.getElem_mem hj))
theorem MDropB.has {t t' : Mp} {k : Int} {x : It} {ok : Bool} (h : MDropB t k x ok t') : (∀ z, t'.has z → t.has z) ∧ (x = it0 ∨ t.has x) := by
  rcases h with ⟨_, h, _, rfl⟩ | ⟨_, _, _, h⟩
  · exact ⟨fun z hz => hz, .inl h⟩
  · cases h with
    | line i j hj hi _ =>
      refine ⟨fun z hz => ?_, .inr (.inr ⟨i, hi, List.getElem_mem hj⟩)⟩
      rcases hz with hz | ⟨q, hq, hz⟩
      · exact .inl hz
      · exact .inr ⟨q, hq, (upd_sub (L := t.L) (cut_sub hj).1 (cut_sub hj).2 q hq).2 z hz⟩
    | cred j hj _ =>
      refine ⟨fun z hz => ?_, .inr (.inl (List.getElem_mem hj))⟩
      rcases hz with hz | hz
      · exact .inl ((cut_sub hj).2 z hz)
      · exact .inr hz
theorem Pp.ok.up {N : Nat} {p : Pp} (h : p.ok N) : p.ok (N + 1) := h.mono (Nat.le_succ _)
theorem Mp.ok.up {N : Nat} {t : Mp} (h : t.ok N) : t.ok (N + 1) := ⟨h.items, fun i hi => Nat.le_succ_of_le (h.len i hi), Nat.le_succ_of_le h.clen⟩
end Go.Proofs.Ytoihhidoafgoaaa
