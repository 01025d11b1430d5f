/- The document's port (chapter 13): Take. -/
import Derived.Test.YthgkminjhpaakaaPoRf
namespace Go.Proofs.Ythgkminjhpaakaa
open Go.RowKit

theorem slAddr_blk {a : Option Addr} {c l s : Nat} {b : Addr} (h : slAddr a c l s = some b) : ∃ a0, a = some a0 ∧ a0.block = b.block := by
  unfold slAddr at h
  split at h
  · exact ⟨b, h, rfl⟩
  · cases a with
    | none => cases h
    | some a0 =>
      have h1 : a0.add (l * s) = b := Option.some.inj h
      exact ⟨a0, rfl, by rw [← h1]; unfold Addr.add; first | rfl | (split <;> rfl) | simp⟩
theorem Rt.sub {w : World} {l : List It} {a : Option Addr} {c : Nat} (h : Rt w (.slice a l.length c) l) (i m : Nat) (hi : i ≤ m) (hm : m ≤ l.length) : Rt w (.slice (slAddr a c i 11) (m - i) (c - i)) ((l.drop i).take (m - i)) := by
  refine ⟨?_, fun b n c' hv => ?_⟩
  · have h1 := h.rd.sub i m hi hm
    rw [flat_drop rowIt, flat_take rowIt] at h1
    rw [show ((l.drop i).take (m - i)).length = m - i by rw [List.length_take, List.length_drop]; omega]
    exact h1
  · have h1 : slAddr a c i 11 = some b := by injection hv
    obtain ⟨a0, h2, h3⟩ := slAddr_blk h1
    rw [← h3]
    exact h.ty a0 _ _ (by rw [h2])
theorem Rt.tail {w : World} {l : List It} {a : Option Addr} {c : Nat} (h : Rt w (.slice a l.length c) l) (i : Nat) (hi : i ≤ l.length) : Rt w (.slice (slAddr a c i 11) (l.length - i) (c - i)) (l.drop i) := by
  have := h.sub i l.length hi (Nat.le_refl _)
  rwa [List.take_of_length_le (by rw [List.length_drop]; omega)] at this
theorem Rt.to {w : World} {l : List It} {a : Option Addr} {c : Nat} (h : Rt w (.slice a l.length c) l) (k : Nat) (hk : k ≤ l.length) : Rt w (.slice a k c) (l.take k) := by
  have h1 := h.sub 0 k (Nat.zero_le _) hk
  have h2 : slAddr a c 0 11 = a := by
    unfold slAddr
    split
    · rfl
    · cases a with
      | none => rfl
      | some a0 => show some (a0.add (0 * 11)) = some a0; rw [Nat.zero_mul]; cases a0; rfl
  rw [h2, Nat.sub_zero, Nat.sub_zero, List.drop_zero] at h1
  exact h1
theorem Mo.cell12 {m : Nat} {U : Nat → Value} {uc : Value} {t : Mp} {w : World} (h : Mo m U uc t w) (T : Int) : Mo m U uc { t with now := T } (w.setCell ⟨m, 12, none⟩ (.int .i64 T)) :=
  have hk : Kept (Only m) w (w.setCell ⟨m, 12, none⟩ (.int .i64 T)) := (Kept.refl _ _).setO
  ⟨h.ob.set 12 _, fun i hi => h.row hk (h.lines i hi), h.row hk h.cr⟩
set_option maxRecDepth 100000 in
set_option maxHeartbeats 4000000 in
theorem mtake_cred (m : Nat) (U : Nat → Value) (uc : Value) (t : Mp) (x : It) (r : List It) (now T : Int) (w : World) (h : Mo m U uc t w) (hC : t.C = x :: r) (hT : max t.now (min now 1125899906842624) = T) (hd : t.ever = false ∨ (t.ever = true ∧ 4 ≤ T - t.last)) (hb : 0 ≤ T ∧ T ≤ 1125899906842624 ∧ 0 ≤ t.last ∧ t.last ≤ 1125899906842624) : Calls Try.prog 20 #[.pointer (some ⟨m, 0, none⟩), .int .i64 now] w fun e w' => e = .returned (.tuple #[boxV x, .bool true]) ∧ MoPost m { t with C := r, now := T, last := T, ever := true } w w' := by
  have HC := Lib.hid hC
  have HD := Lib.hid hd
  have h0 : 0 < t.C.length := by rw [hC]; simp
  clear hC hd
  have HM := Lib.hid h
  have HT := Lib.hid hT
  clear h hT
  go_enter Try.func20, Try.ntmps20
  go_upto_region 1 with fail
  have OX := Lib.hid (Ob.new w #[.int .i64 0, .int .i64 0, .int .i64 0, .int .i64 0, .int .u64 0, .int .i64 0, .int .i64 0, .int .i64 0, .int .i64 0, .slice none 0 0, .int .i64 0] TX)
  have HB := Lib.hid ((Below.refl w.heap.size w).alloc (Nat.le_refl _) (.cells #[.int .i64 0, .int .i64 0, .int .i64 0, .int .i64 0, .int .u64 0, .int .i64 0, .int .i64 0, .int .i64 0, .int .i64 0, .slice none 0 0, .int .i64 0] TX))
  have M1 := Lib.hid (HM.out.below HB.out)
  generalize w.alloc (.cells #[.int .i64 0, .int .i64 0, .int .i64 0, .int .i64 0, .int .u64 0, .int .i64 0, .int .i64 0, .int .i64 0, .int .i64 0, .slice none 0 0, .int .i64 0] TX) = w1 at *
  obtain ⟨X, HX⟩ : ∃ X, Hid (w.heap.size = X) := ⟨_, Lib.hid rfl⟩
  rw [HX.out] at OX ⊢
  have hXm : X ≠ m := fun hh => absurd (Ty.one (by rw [hh] at OX; exact OX.out.ty) M1.out.ob.ty) (by decide)
  have lm := M1.out.ob.lt
  have fm := (M1.out.ob.blk).2.2
  have cm12 : w1.cell? ⟨m, 12, none⟩ = some (.int .i64 t.now) := (M1.out.ob.blk).2.1 12
  go_upto_region 2 with fail
  rw [HT.out]
  have M2 := Lib.hid (M1.out.cell12 T)
  have OX2 := Lib.hid (OX.out.other ⟨m, 12, none⟩ (.int .i64 T) hXm)
  have K2 := Lib.hid ((Kept.of_below (M := Only m) HB.out).trans (Kept.setO (b := m) (i := 12) (v := .int .i64 T) (Kept.refl _ _)))
  clear lm fm cm12
  generalize w1.setCell ⟨m, 12, none⟩ (.int .i64 T) = w2 at *
  have lm := M2.out.ob.lt
  have cm12 : w2.cell? ⟨m, 12, none⟩ = some (.int .i64 T) := (M2.out.ob.blk).2.1 12
  have cm13 : w2.cell? ⟨m, 13, none⟩ = some (.int .i64 t.last) := (M2.out.ob.blk).2.1 13
  have cm14 : w2.cell? ⟨m, 14, none⟩ = some (.bool t.ever) := (M2.out.ob.blk).2.1 14
  obtain ⟨a, c, hv, hlc, hcm⟩ := M2.out.cr.form
  have HV := Lib.hid hv
  have cl : w2.cell? ⟨m, 11, none⟩ = some (.slice a t.C.length c) := by rw [← hv]; exact (M2.out.ob.blk).2.1 11
  clear hv
  go_cut [43] from 19 (fun s wx => s = .bool true ∧ Mo m U uc { t with now := T } wx ∧ Ob wx X #[.int .i64 0, .int .i64 0, .int .i64 0, .int .i64 0, .int .u64 0, .int .i64 0, .int .i64 0, .int .i64 0, .int .i64 0, .slice none 0 0, .int .i64 0] TX ∧ Kept (Only m) w wx)
  case first =>
    rcases HD.out with he | ⟨he, hd⟩
    · rw [he] at cm14
      refine wp_region_quiet_lit (by kernel_rfl) (by kernel_rfl) ?_
      try simp only [List.append]
      repeat (first | go_big_quiet_step (fail) | quiet_step (fail))
      refine wpQuiet_nil ?_
      intro W hW
      have MW : Hid (Mo m U uc { t with now := T } W) := by obtain ⟨n, rfl⟩ := hW; exact Lib.hid (M2.out.keptF (Kept.dn _ _ _))
      have OW : Hid (Ob W X #[.int .i64 0, .int .i64 0, .int .i64 0, .int .i64 0, .int .u64 0, .int .i64 0, .int .i64 0, .int .i64 0, .int .i64 0, .slice none 0 0, .int .i64 0] TX) := by obtain ⟨n, rfl⟩ := hW; exact Lib.hid OX2.out.dn
      have KW : Hid (Kept (Only m) w W) := by obtain ⟨n, rfl⟩ := hW; exact Lib.hid (K2.out.dnR n)
      clear hW
      go_wp2_with fail
      go_meet
      exact ⟨rfl, MW.out, OW.out, KW.out⟩
    · rw [he] at cm14
      refine wp_region_quiet_lit (by kernel_rfl) (by kernel_rfl) ?_
      try simp only [List.append]
      repeat (first | go_big_quiet_step (fail) | quiet_step (fail))
      refine wpQuiet_nil ?_
      intro W hW
      have MW : Hid (Mo m U uc { t with now := T } W) := by obtain ⟨n, rfl⟩ := hW; exact Lib.hid (M2.out.keptF (Kept.dn _ _ _))
      have OW : Hid (Ob W X #[.int .i64 0, .int .i64 0, .int .i64 0, .int .i64 0, .int .u64 0, .int .i64 0, .int .i64 0, .int .i64 0, .int .i64 0, .slice none 0 0, .int .i64 0] TX) := by obtain ⟨n, rfl⟩ := hW; exact Lib.hid OX2.out.dn
      have KW : Hid (Kept (Only m) w W) := by obtain ⟨n, rfl⟩ := hW; exact Lib.hid (K2.out.dnR n)
      clear hW
      go_wp2_with fail
      go_meet
      exact ⟨rfl, MW.out, OW.out, KW.out⟩
  case rest =>
  obtain ⟨rfl, hm3, ho3, hk3⟩ := hcut
  have M3 := Lib.hid hm3
  have OX3 := Lib.hid ho3
  have K3 := Lib.hid hk3
  clear hm3 ho3 hk3 lm cm12 cm13 cm14 cl
  rename World => w3
  have lm := M3.out.ob.lt
  have fm := (M3.out.ob.blk).2.2
  have cl : w3.cell? ⟨m, 11, none⟩ = some (.slice a t.C.length c) := by rw [← HV.out]; exact (M3.out.ob.blk).2.1 11
  have hrd := M3.out.cr
  rw [HV.out] at hrd
  obtain ⟨g, o, hgo, hg, hc⟩ := hrd.rd.row rowIt (by decide) 0 h0
  cases hgo
  have hx0 : t.C[0] = x := by simp [HC.out]
  rw [hx0] at hc
  have c0 : w3.cell? ⟨g, o, none⟩ = some (.int .i64 x.kind) := hc 0 _ rfl
  have c1 : w3.cell? ⟨g, o + 1, none⟩ = some (.int .i64 x.src) := hc 1 _ rfl
  have c2 : w3.cell? ⟨g, o + 2, none⟩ = some (.int .i64 x.dst) := hc 2 _ rfl
  have c3 : w3.cell? ⟨g, o + 3, none⟩ = some (.int .i64 x.prio) := hc 3 _ rfl
  have c4 : w3.cell? ⟨g, o + 4, none⟩ = some (.int .u64 x.msg) := hc 4 _ rfl
  have c5 : w3.cell? ⟨g, o + 5, none⟩ = some (.int .i64 x.off) := hc 5 _ rfl
  have c6 : w3.cell? ⟨g, o + 6, none⟩ = some (.int .i64 x.len) := hc 6 _ rfl
  have c7 : w3.cell? ⟨g, o + 7, none⟩ = some (.int .i64 x.total) := hc 7 _ rfl
  have c8 : w3.cell? ⟨g, o + 8, none⟩ = some (.int .i64 x.num) := hc 8 _ rfl
  have c9 : w3.cell? ⟨g, o + 9, none⟩ = some (.slice x.da x.dn x.dc) := hc 9 _ rfl
  have c10 : w3.cell? ⟨g, o + 10, none⟩ = some (.int .i64 x.path) := hc 10 _ rfl
  have HRT := Lib.hid (hrd.tail 1 h0)
  clear hc hrd hx0
  go_upto_region 4 with fail
  have OZ := Lib.hid (Ob.new w3 #[.int .i64 x.kind, .int .i64 x.src, .int .i64 x.dst, .int .i64 x.prio, .int .u64 x.msg, .int .i64 x.off, .int .i64 x.len, .int .i64 x.total, .int .i64 x.num, .slice x.da x.dn x.dc, .int .i64 x.path] TX)
  have KA : Hid (Kept (fun _ => False) w3 (w3.alloc (.cells #[.int .i64 x.kind, .int .i64 x.src, .int .i64 x.dst, .int .i64 x.prio, .int .u64 x.msg, .int .i64 x.off, .int .i64 x.len, .int .i64 x.total, .int .i64 x.num, .slice x.da x.dn x.dc, .int .i64 x.path] TX))) := Lib.hid ((Kept.refl _ _).alloc _)
  have M4 := Lib.hid (M3.out.keptF KA.out)
  have OX4 := Lib.hid (OX3.out.kept KA.out (fun h => h))
  have RT4 := Lib.hid (HRT.out.kept KA.out (fun _ hh => hh.elim))
  have lX3 := OX3.out.lt
  obtain ⟨Z, HZ⟩ : ∃ Z, Hid (w3.heap.size = Z) := ⟨_, Lib.hid rfl⟩
  rw [HZ.out] at OZ ⊢
  have hXZ : X ≠ Z := by have := HZ.out; omega
  have hmZ : m ≠ Z := by have := HZ.out; omega
  clear lm fm cl c0 c1 c2 c3 c4 c5 c6 c7 c8 c9 c10
  generalize w3.alloc (.cells #[.int .i64 x.kind, .int .i64 x.src, .int .i64 x.dst, .int .i64 x.prio, .int .u64 x.msg, .int .i64 x.off, .int .i64 x.len, .int .i64 x.total, .int .i64 x.num, .slice x.da x.dn x.dc, .int .i64 x.path] TX) = w4 at *
  have lm := M4.out.ob.lt
  have fm := (M4.out.ob.blk).2.2
  have cl : w4.cell? ⟨m, 11, none⟩ = some (.slice (some ⟨g, o, none⟩) t.C.length c) := by rw [← HV.out]; exact (M4.out.ob.blk).2.1 11
  have cm12 : w4.cell? ⟨m, 12, none⟩ = some (.int .i64 T) := (M4.out.ob.blk).2.1 12
  have cm13 : w4.cell? ⟨m, 13, none⟩ = some (.int .i64 t.last) := (M4.out.ob.blk).2.1 13
  have cm14 : w4.cell? ⟨m, 14, none⟩ = some (.bool t.ever) := (M4.out.ob.blk).2.1 14
  go_upto_region 7 with (refine wpList_slFrom rfl _ _ _ rfl Try.underlying57 info_x rfl rfl (by omega) ?_)
  have OB : Hid (Ob (((w4.setCell ⟨m, 11, none⟩ (.slice (slAddr (some ⟨g, o, none⟩) c 1 11) (t.C.length - 1) (c - 1))).setCell ⟨m, 13, none⟩ (.int .i64 T)).setCell ⟨m, 14, none⟩ (.bool true)) m (mcells U (.slice (slAddr (some ⟨g, o, none⟩) c 1 11) (t.C.length - 1) (c - 1)) { t with C := r, now := T, last := T, ever := true }) TM) := Lib.hid (Ob.cast (((M4.out.ob.set 11 _).set 13 _).set 14 _) (by rfl))
  have K5 : Hid (Kept (Only m) w4 (((w4.setCell ⟨m, 11, none⟩ (.slice (slAddr (some ⟨g, o, none⟩) c 1 11) (t.C.length - 1) (c - 1))).setCell ⟨m, 13, none⟩ (.int .i64 T)).setCell ⟨m, 14, none⟩ (.bool true))) := Lib.hid (Kept.refl _ _).setO.setO.setO
  have hr1 : t.C.drop 1 = r := by rw [HC.out]; rfl
  have RT4' := RT4.out
  have hr1' : ({ t with now := T } : Mp).C.drop 1 = r := hr1
  have M5 := Lib.hid (show Mo m U (.slice (slAddr (some ⟨g, o, none⟩) c 1 11) (t.C.length - 1) (c - 1)) { t with C := r, now := T, last := T, ever := true } _ from ⟨OB.out, fun i hi => M4.out.row K5.out (M4.out.lines i hi), M4.out.row K5.out (hr1' ▸ RT4')⟩)
  have OX5 := Lib.hid (((OX4.out.other ⟨m, 11, none⟩ (.slice (slAddr (some ⟨g, o, none⟩) c 1 11) (t.C.length - 1) (c - 1)) hXm).other ⟨m, 13, none⟩ (.int .i64 T) hXm).other ⟨m, 14, none⟩ (.bool true) hXm)
  have OZ5 := Lib.hid (((OZ.out.other ⟨m, 11, none⟩ (.slice (slAddr (some ⟨g, o, none⟩) c 1 11) (t.C.length - 1) (c - 1)) (fun hh => hmZ hh.symm)).other ⟨m, 13, none⟩ (.int .i64 T) (fun hh => hmZ hh.symm)).other ⟨m, 14, none⟩ (.bool true) (fun hh => hmZ hh.symm))
  have K6 := Lib.hid ((K3.out.trans (KA.out.mono fun _ _ h => h.elim)).trans K5.out)
  have HNL := Lib.hid (fun (i : Nat) (hi : i < 8) (a : Addr) (n c : Nat) (hv : U i = .slice (some a) n c) => show a.block ≠ X from by
    obtain ⟨cs, h2⟩ := (HM.out.lines i hi).ty a n c hv
    have := heap_lt h2
    have := HX.out
    omega)
  have HNC := Lib.hid (fun (a : Addr) (n c' : Nat) (hv : Value.slice (slAddr (some ⟨g, o, none⟩) c 1 11) (t.C.length - 1) (c - 1) = .slice (some a) n c') => show a.block ≠ X from by
    have h1 : slAddr (some ⟨g, o, none⟩) c 1 11 = some a := by injection hv
    obtain ⟨a0, h2, h3⟩ := slAddr_blk h1
    cases h2
    obtain ⟨cs, h4⟩ := HM.out.cr.ty _ _ _ HV.out
    have := heap_lt h4
    have := HX.out
    rw [← h3]
    omega)
  clear lm fm cl cm12 cm13 cm14 OB K5 RT4' hr1 hr1'
  generalize ((w4.setCell ⟨m, 11, none⟩ (.slice (slAddr (some ⟨g, o, none⟩) c 1 11) (t.C.length - 1) (c - 1))).setCell ⟨m, 13, none⟩ (.int .i64 T)).setCell ⟨m, 14, none⟩ (.bool true) = w5 at *
  obtain ⟨lz, cz, fz⟩ := OZ5.out.blk
  have cz0 : w5.cell? ⟨Z, 0, none⟩ = some (.int .i64 x.kind) := cz 0
  have cz1 : w5.cell? ⟨Z, 1, none⟩ = some (.int .i64 x.src) := cz 1
  have cz2 : w5.cell? ⟨Z, 2, none⟩ = some (.int .i64 x.dst) := cz 2
  have cz3 : w5.cell? ⟨Z, 3, none⟩ = some (.int .i64 x.prio) := cz 3
  have cz4 : w5.cell? ⟨Z, 4, none⟩ = some (.int .u64 x.msg) := cz 4
  have cz5 : w5.cell? ⟨Z, 5, none⟩ = some (.int .i64 x.off) := cz 5
  have cz6 : w5.cell? ⟨Z, 6, none⟩ = some (.int .i64 x.len) := cz 6
  have cz7 : w5.cell? ⟨Z, 7, none⟩ = some (.int .i64 x.total) := cz 7
  have cz8 : w5.cell? ⟨Z, 8, none⟩ = some (.int .i64 x.num) := cz 8
  have cz9 : w5.cell? ⟨Z, 9, none⟩ = some (.slice x.da x.dn x.dc) := cz 9
  have cz10 : w5.cell? ⟨Z, 10, none⟩ = some (.int .i64 x.path) := cz 10
  clear cz
  obtain ⟨lx, cx, fx⟩ := OX5.out.blk
  have cx0 : w5.cell? ⟨X, 0, none⟩ = some (.int .i64 0) := cx 0
  have cx1 : w5.cell? ⟨X, 1, none⟩ = some (.int .i64 0) := cx 1
  have cx2 : w5.cell? ⟨X, 2, none⟩ = some (.int .i64 0) := cx 2
  have cx3 : w5.cell? ⟨X, 3, none⟩ = some (.int .i64 0) := cx 3
  have cx4 : w5.cell? ⟨X, 4, none⟩ = some (.int .u64 0) := cx 4
  have cx5 : w5.cell? ⟨X, 5, none⟩ = some (.int .i64 0) := cx 5
  have cx6 : w5.cell? ⟨X, 6, none⟩ = some (.int .i64 0) := cx 6
  have cx7 : w5.cell? ⟨X, 7, none⟩ = some (.int .i64 0) := cx 7
  have cx8 : w5.cell? ⟨X, 8, none⟩ = some (.int .i64 0) := cx 8
  have cx9 : w5.cell? ⟨X, 9, none⟩ = some (.slice none 0 0) := cx 9
  have cx10 : w5.cell? ⟨X, 10, none⟩ = some (.int .i64 0) := cx 10
  clear cx
  go_wp2_with fail
  have hw : (((((((((((w5.setCell ⟨X, 0, none⟩ (.int .i64 x.kind)).setCell ⟨X, 1, none⟩ (.int .i64 x.src)).setCell ⟨X, 2, none⟩ (.int .i64 x.dst)).setCell ⟨X, 3, none⟩ (.int .i64 x.prio)).setCell ⟨X, 4, none⟩ (.int .u64 x.msg)).setCell ⟨X, 5, none⟩ (.int .i64 x.off)).setCell ⟨X, 6, none⟩ (.int .i64 x.len)).setCell ⟨X, 7, none⟩ (.int .i64 x.total)).setCell ⟨X, 8, none⟩ (.int .i64 x.num)).setCell ⟨X, 9, none⟩ (.slice x.da x.dn x.dc)).setCell ⟨X, 10, none⟩ (.int .i64 x.path)) = w5.setCells X 0 [.int .i64 x.kind, .int .i64 x.src, .int .i64 x.dst, .int .i64 x.prio, .int .u64 x.msg, .int .i64 x.off, .int .i64 x.len, .int .i64 x.total, .int .i64 x.num, .slice x.da x.dn x.dc, .int .i64 x.path] := rfl
  rw [hw]
  clear hw cx0 cx1 cx2 cx3 cx4 cx5 cx6 cx7 cx8 cx9 cx10 cz0 cz1 cz2 cz3 cz4 cz5 cz6 cz7 cz8 cz9 cz10 lz fz lx fx
  have OF := Lib.hid (OX5.out.sets [.int .i64 x.kind, .int .i64 x.src, .int .i64 x.dst, .int .i64 x.prio, .int .u64 x.msg, .int .i64 x.off, .int .i64 x.len, .int .i64 x.total, .int .i64 x.num, .slice x.da x.dn x.dc, .int .i64 x.path] rfl)
  have KF : Hid (Kept (Only X) w5 (w5.setCells X 0 [.int .i64 x.kind, .int .i64 x.src, .int .i64 x.dst, .int .i64 x.prio, .int .u64 x.msg, .int .i64 x.off, .int .i64 x.len, .int .i64 x.total, .int .i64 x.num, .slice x.da x.dn x.dc, .int .i64 x.path])) := Lib.hid ((Kept.refl (Only X) w5).setsO (X := X) (show X = X from rfl) _)
  have KW := Lib.hid (K6.out.setsN (X := X) (Nat.le_of_eq HX.out) [.int .i64 x.kind, .int .i64 x.src, .int .i64 x.dst, .int .i64 x.prio, .int .u64 x.msg, .int .i64 x.off, .int .i64 x.len, .int .i64 x.total, .int .i64 x.num, .slice x.da x.dn x.dc, .int .i64 x.path])
  have NX := Lib.hid (fun (v : Value) (l : List It) (hr : Rt w5 v l) (hv : ∀ a n c, v = .slice (some a) n c → a.block ≠ X) => show Rt (w5.setCells X 0 [.int .i64 x.kind, .int .i64 x.src, .int .i64 x.dst, .int .i64 x.prio, .int .u64 x.msg, .int .i64 x.off, .int .i64 x.len, .int .i64 x.total, .int .i64 x.num, .slice x.da x.dn x.dc, .int .i64 x.path]) v l from ⟨hr.rd.kept KF.out fun a n c h hh => hv a n c h hh, fun a n c h => (hr.ty a n c h).kept KF.out fun hh => hv a n c h hh⟩)
  have MF := Lib.hid (show Mo _ _ _ _ (w5.setCells X 0 [.int .i64 x.kind, .int .i64 x.src, .int .i64 x.dst, .int .i64 x.prio, .int .u64 x.msg, .int .i64 x.off, .int .i64 x.len, .int .i64 x.total, .int .i64 x.num, .slice x.da x.dn x.dc, .int .i64 x.path]) from ⟨M5.out.ob.kept KF.out (fun hh => hXm (show m = X from hh).symm), fun i hi => NX.out _ _ (M5.out.lines i hi) (HNL.out i hi), NX.out _ _ M5.out.cr HNC.out⟩)
  clear NX
  generalize w5.setCells X 0 [.int .i64 x.kind, .int .i64 x.src, .int .i64 x.dst, .int .i64 x.prio, .int .u64 x.msg, .int .i64 x.off, .int .i64 x.len, .int .i64 x.total, .int .i64 x.num, .slice x.da x.dn x.dc, .int .i64 x.path] = F at *
  obtain ⟨lf, cf, ff⟩ := OF.out.blk
  have cf0 : F.cell? ⟨X, 0, none⟩ = some (.int .i64 x.kind) := cf 0
  have cf1 : F.cell? ⟨X, 1, none⟩ = some (.int .i64 x.src) := cf 1
  have cf2 : F.cell? ⟨X, 2, none⟩ = some (.int .i64 x.dst) := cf 2
  have cf3 : F.cell? ⟨X, 3, none⟩ = some (.int .i64 x.prio) := cf 3
  have cf4 : F.cell? ⟨X, 4, none⟩ = some (.int .u64 x.msg) := cf 4
  have cf5 : F.cell? ⟨X, 5, none⟩ = some (.int .i64 x.off) := cf 5
  have cf6 : F.cell? ⟨X, 6, none⟩ = some (.int .i64 x.len) := cf 6
  have cf7 : F.cell? ⟨X, 7, none⟩ = some (.int .i64 x.total) := cf 7
  have cf8 : F.cell? ⟨X, 8, none⟩ = some (.int .i64 x.num) := cf 8
  have cf9 : F.cell? ⟨X, 9, none⟩ = some (.slice x.da x.dn x.dc) := cf 9
  have cf10 : F.cell? ⟨X, 10, none⟩ = some (.int .i64 x.path) := cf 10
  clear cf
  refine done (.tuple #[boxV x, .bool true]) rfl (by simp [boxV, results, Try.results20, go_sem, cf0, cf1, cf2, cf3, cf4, cf5, cf6, cf7, cf8, cf9, cf10]) ⟨rfl, _, _, MF.out, KW.out⟩
end Go.Proofs.Ythgkminjhpaakaa
