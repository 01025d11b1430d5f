/- The fabric (chapter 15): Send. -/
import Derived.Test.YtoihhidoafgoaaaMG
import Derived.Test.YtoihhidoafgoaaaMF
import Derived.Test.YtoihhidoafgoaaaWireCkA
namespace Go.Proofs.Ytoihhidoafgoaaa
open Go.RowKit

def It.fr (x : It) : Fr := ⟨x.kind, x.src, x.dst, x.prio, x.msg, x.off, x.len, x.total, x.num, x.bs⟩
theorem ok2_fr {x : It} (h : okF x.fr) (hd : x.dn = x.bs.length) : x.ok2 := by
  have h1 := h.data
  have h2 : 0 ≤ x.len ∧ x.len ≤ 1500 := h.len
  refine ⟨?_, by omega⟩
  have h3 : (x.bs.length : Int) = if x.kind = 1 then x.len else 0 := h1
  split at h3 <;> omega
theorem ok_fr {x : It} (h : okF x.fr) (hd : x.dn = x.bs.length) : x.ok := by
  have h2 := ok2_fr h hd
  exact ⟨h2.dn, by have := h2.len; omega⟩
section
variable {f B0 : Nat} {l : Fl} {s : Fs} {w w' : World}
theorem FM_lost (s1 : Fs) (r : Int) (l' : Fl) : FM f l' (lostBy s1 r) = FM f l' s1 := by unfold lostBy; split <;> rfl
theorem Fa.portP (h : Fa f B0 l s w) {i : Nat} (hi : i < nP s.H s.S) {p' : Pp} (hp : PoPost (l.b i) B0 (l.l i) p' w w') : FaPost f B0 l s { s with P := upd s.P i p' } w w' := by
  obtain ⟨li, h1, h2, _, h3⟩ := h.port hi hp
  exact ⟨_, h1, h2, h3⟩
theorem FaPost.count {w1 : World} {s1 : Fs} {l' : Fl} {r : Int} (h2 : Kept (FM f l s) w w1) (h3 : ∀ x, FM f l' s1 x → FM f l s x ∨ w.heap.size ≤ x) (h4 : Fa f B0 l' (lostBy s1 r) w') (h5 : Kept (Only f) w1 w') : FaPost f B0 l s (lostBy s1 r) w w' :=
  ⟨l', h4, h2.trans2 h5 (fun x _ hh => .inl hh), fun x hx => h3 x (by rw [FM_lost] at hx; exact hx)⟩
def SendPost (f B0 : Nat) (l : Fl) (s : Fs) (h : Nat) (x : It) (w : World) (e : Ending) (w' : World) : Prop := ∃ r p', e = .returned (.tuple #[.int .i64 r, .int .i64 0]) ∧ PutRel (s.P h) x r p' ∧ FaPost f B0 l s (lostBy { s with P := upd s.P h p' } r) w w'
set_option maxRecDepth 100000 in
set_option maxHeartbeats 4000000 in
theorem send_yes (h : Fa f B0 l s w) {k d : Nat} {x : It} {N : Nat} (hk : k < s.H) (hd : d < s.H) (hxd : x.dst = d) (hne : d ≠ k) (hf : okF x.fr) (hdn : x.dn = x.bs.length) (hr : Rd w 1 (.slice x.da x.dn x.dc) x.dn (bcells x.bs)) (ho : (s.P k).ok N) (hN : N ≤ 1000000) (hl : 0 ≤ s.lost ∧ s.lost ≤ 1000000000) : Calls Try.prog 10 #[.pointer (some ⟨f, 0, none⟩), .int .i64 k, x.frv, .int .i64 x.path] w (SendPost f B0 l s k x w) := by
  have HF := Lib.hid h
  have HX := Lib.hid hf
  have HR := Lib.hid hr
  have HO := Lib.hid ho
  have HXD := Lib.hid hxd
  have HDN := Lib.hid hdn
  have hh := h.hs.h
  have hnp := h.hs.np
  have hls := Lib.hid (nP_ls s.H s.S)
  have hkp : k < nP s.H s.S := by rw [hls.out]; omega
  have hneb : (x.dst == (k : Int)) = false := beq_eq_false_iff_ne.2 (by omega)
  have XO := Lib.hid (ok_fr hf hdn)
  clear h hf hr ho hxd hdn hls
  unfold It.frv
  go_enter Try.func10, Try.ntmps10
  go_upto_region 1 with fail
  have OX := Lib.hid (Ob.new w #[.int .i64 x.kind, .int .i64 x.src, .int .i64 x.dst, .int .i64 x.prio, .int .u64 x.msg, .int .i64 x.off, .int .i64 x.len, .int .i64 x.total, .int .i64 x.num, .slice x.da x.dn x.dc] TFr)
  have HB := Lib.hid ((Below.refl w.heap.size w).alloc (Nat.le_refl _) (.cells #[.int .i64 x.kind, .int .i64 x.src, .int .i64 x.dst, .int .i64 x.prio, .int .u64 x.msg, .int .i64 x.off, .int .i64 x.len, .int .i64 x.total, .int .i64 x.num, .slice x.da x.dn x.dc] TFr))
  have F1 := Lib.hid (HF.out.below HB.out)
  have R1 := Lib.hid (HR.out.below HB.out)
  generalize w.alloc (.cells #[.int .i64 x.kind, .int .i64 x.src, .int .i64 x.dst, .int .i64 x.prio, .int .u64 x.msg, .int .i64 x.off, .int .i64 x.len, .int .i64 x.total, .int .i64 x.num, .slice x.da x.dn x.dc] TFr) = w1 at *
  obtain ⟨X, HXX⟩ : ∃ X, Hid (w.heap.size = X) := ⟨_, Lib.hid rfl⟩
  rw [HXX.out] at OX ⊢
  obtain ⟨lx, cx, fx⟩ := OX.out.blk
  have cx0 : w1.cell? ⟨X, 0, none⟩ = some (.int .i64 x.kind) := cx 0
  have cx1 : w1.cell? ⟨X, 1, none⟩ = some (.int .i64 x.src) := cx 1
  have cx2 : w1.cell? ⟨X, 2, none⟩ = some (.int .i64 x.dst) := cx 2
  have cx3 : w1.cell? ⟨X, 3, none⟩ = some (.int .i64 x.prio) := cx 3
  have cx4 : w1.cell? ⟨X, 4, none⟩ = some (.int .u64 x.msg) := cx 4
  have cx5 : w1.cell? ⟨X, 5, none⟩ = some (.int .i64 x.off) := cx 5
  have cx6 : w1.cell? ⟨X, 6, none⟩ = some (.int .i64 x.len) := cx 6
  have cx7 : w1.cell? ⟨X, 7, none⟩ = some (.int .i64 x.total) := cx 7
  have cx8 : w1.cell? ⟨X, 8, none⟩ = some (.int .i64 x.num) := cx 8
  have cx9 : w1.cell? ⟨X, 9, none⟩ = some (.slice x.da x.dn x.dc) := cx 9
  clear cx
  go_wp2_with fail
  refine (has_yes F1.out hk).mono ?_
  rintro e w2 ⟨rfl, rfl⟩
  have hck := check_any x.fr x.da x.dc HX.out.msg.1 w1
  unfold Fr.val It.fr at hck
  simp only at hck
  rw [← HDN.out] at hck
  go_wp2_with fail
  refine (hck).mono ?_
  rintro e w3 ⟨hc, hb3⟩
  have hc2 : e = .returned (.int .i64 0) := by
    rcases hc with ⟨_, hc⟩ | ⟨hn, _⟩
    · exact hc
    · exact absurd HX.out hn
  subst hc2
  have F3 := Lib.hid (F1.out.below hb3)
  have R3 := Lib.hid (R1.out.below hb3)
  have OX3 := Lib.hid (OX.out.below hb3)
  have HB3 := Lib.hid (HB.out.trans (hb3.mono HB.out.size))
  clear hc hb3 hck lx fx cx0 cx1 cx2 cx3 cx4 cx5 cx6 cx7 cx8 cx9
  obtain ⟨lx, cx, fx⟩ := OX3.out.blk
  have cx0 : w3.cell? ⟨X, 0, none⟩ = some (.int .i64 x.kind) := cx 0
  have cx1 : w3.cell? ⟨X, 1, none⟩ = some (.int .i64 x.src) := cx 1
  have cx2 : w3.cell? ⟨X, 2, none⟩ = some (.int .i64 x.dst) := cx 2
  have cx3 : w3.cell? ⟨X, 3, none⟩ = some (.int .i64 x.prio) := cx 3
  have cx4 : w3.cell? ⟨X, 4, none⟩ = some (.int .u64 x.msg) := cx 4
  have cx5 : w3.cell? ⟨X, 5, none⟩ = some (.int .i64 x.off) := cx 5
  have cx6 : w3.cell? ⟨X, 6, none⟩ = some (.int .i64 x.len) := cx 6
  have cx7 : w3.cell? ⟨X, 7, none⟩ = some (.int .i64 x.total) := cx 7
  have cx8 : w3.cell? ⟨X, 8, none⟩ = some (.int .i64 x.num) := cx 8
  have cx9 : w3.cell? ⟨X, 9, none⟩ = some (.slice x.da x.dn x.dc) := cx 9
  clear cx
  have hhas := has_yes F3.out hd
  rw [← HXD.out] at hhas
  go_wp2_with fail
  refine (hhas).mono ?_
  rintro e w4 ⟨rfl, rfl⟩
  obtain ⟨l0, c0, c1, c2, c3⟩ := F3.out.cells
  clear hhas c1 c2 c3
  go_wp2_with fail
  have hMf : ¬ PM (l.b k) (l.l k) f := fun hh => by
    obtain ⟨T, h1, h2⟩ := (F3.out.po k hkp).pty hh
    cases h1.one F3.out.ob.ty
    rcases h2 with h2 | h2 | h2 | h2 | h2 <;> exact absurd h2 (by decide)
  have hMX : ¬ PM (l.b k) (l.l k) X := fun hh => by
    obtain ⟨T, h1, h2⟩ := (F3.out.po k hkp).pty hh
    cases h1.one OX3.out.ty
    rcases h2 with h2 | h2 | h2 | h2 | h2 <;> exact absurd h2 (by decide)
  refine wp_heads (M := (PM (l.b k) (l.l k))) 13 (by kernel_rfl) (by kernel_rfl) ?_
  refine hd_quiet [true, true, true, true, true, true, true, false, false, true, true, true, false, false, false, false] (by kernel_rfl) ?_
  simp only [pickAt]
  repeat (go_big_quiet_step (fail))
  refine wpQuiet_nil ?_
  refine hd_act 7 rfl (by kernel_rfl) ?_
  refine run_want rfl ?_
  intro A hA
  go_simp
  refine (net_up l.nb s.H s.S k w3.drew (Ob.drew F3.out.net) hk F3.out.hs).mono ?_
  rintro e w4 ⟨rfl, rfl⟩
  refine hA _ _ (Kept.refl _ _) ?_
  try simp only [Act.put, List.setIfInBounds_toArray, List.set_cons_zero, List.set_cons_succ]
  clear A hA
  refine hd_act 8 rfl (by kernel_rfl) ?_
  refine run_want rfl ?_
  intro A hA
  go_simp
  refine (at_yes (F3.out.keptF (Kept.drew _ w3)) hkp).mono ?_
  rintro e w4 ⟨rfl, rfl⟩
  refine hA _ _ (Kept.refl _ _) ?_
  try simp only [Act.put, List.setIfInBounds_toArray, List.set_cons_zero, List.set_cons_succ]
  clear A hA
  refine hd_act 12 rfl (by kernel_rfl) ?_
  refine run_want rfl ?_
  intro A hA
  go_simp
  have hpu := put_any (l.b k) B0 (l.l k) (s.P k) N x w3.drew ((F3.out.keptF (Kept.drew _ w3)).po k hkp) (R3.out.kept (Kept.drew (fun _ => False) w3) (fun _ _ _ _ h => h)) HO.out hN XO.out
  unfold It.val at hpu
  refine hpu.mono ?_
  rintro e w6 ⟨r, p6, rfl, hp6, hrel⟩
  obtain ⟨l6, hf6, hk6, hk6', hg6⟩ := (F3.out.keptF (Kept.drew _ w3)).port hkp hp6
  have F6 := Lib.hid hf6
  have K6 := Lib.hid ((Kept.drew _ w3).trans hk6)
  have G6 := Lib.hid hg6
  have HREL := Lib.hid hrel
  refine hA _ _ (hk6') ?_
  try simp only [Act.put, List.setIfInBounds_toArray, List.set_cons_zero, List.set_cons_succ]
  clear A hA
  clear hpu hp6 hf6 hk6 hk6' hg6 hrel
  refine hd_tail rfl (by kernel_rfl) ?_
  simp only [List.drop_succ_cons, List.drop_zero]
  go_wp2_with fail
  refine (counts_any F6.out r hl).mono ?_
  rintro e w7 ⟨rfl, hf7, hk7⟩
  have P7 := Lib.hid ((FaPost.count K6.out G6.out hf7 hk7).before HB3.out)
  clear hf7 hk7
  go_wp2
  refine NoPanic.normal ?_
  go_wp2
  go_ret2
  exact ⟨r, p6, rfl, HREL.out, P7.out⟩
set_option maxRecDepth 100000 in
set_option maxHeartbeats 4000000 in
theorem send_no0 (h : Fa f B0 l s w) {k : Int} {x : It} (hk : k < 0 ∨ (s.H : Int) ≤ k) : Calls Try.prog 10 #[.pointer (some ⟨f, 0, none⟩), .int .i64 k, x.frv, .int .i64 x.path] w fun e w' => e = .returned (.tuple #[.int .i64 0, .int .i64 1]) ∧ Below w.heap.size w w' := by
  have HF := Lib.hid h
  clear h
  unfold It.frv
  go_enter Try.func10, Try.ntmps10
  go_upto_region 1 with fail
  have HB := Lib.hid ((Below.refl w.heap.size w).alloc (Nat.le_refl _) (.cells #[.int .i64 x.kind, .int .i64 x.src, .int .i64 x.dst, .int .i64 x.prio, .int .u64 x.msg, .int .i64 x.off, .int .i64 x.len, .int .i64 x.total, .int .i64 x.num, .slice x.da x.dn x.dc] TFr))
  have F1 := Lib.hid (HF.out.below HB.out)
  generalize w.alloc (.cells #[.int .i64 x.kind, .int .i64 x.src, .int .i64 x.dst, .int .i64 x.prio, .int .u64 x.msg, .int .i64 x.off, .int .i64 x.len, .int .i64 x.total, .int .i64 x.num, .slice x.da x.dn x.dc] TFr) = w1 at *
  go_wp2_with fail
  refine (has_no F1.out hk).mono ?_
  rintro e w2 ⟨rfl, rfl⟩
  go_wp2_with fail
  go_ret2
  exact ⟨rfl, HB.out⟩
set_option maxRecDepth 100000 in
set_option maxHeartbeats 4000000 in
theorem send_no1 (h : Fa f B0 l s w) {k : Nat} {x : It} (hk : k < s.H) (hm : 0 ≤ x.msg) (hdn : x.dn = x.bs.length) (hno : ¬ okF x.fr ∨ (okF x.fr ∧ (s.H : Int) ≤ x.dst) ∨ (okF x.fr ∧ 0 ≤ x.dst ∧ x.dst < s.H ∧ x.dst = k)) : Calls Try.prog 10 #[.pointer (some ⟨f, 0, none⟩), .int .i64 k, x.frv, .int .i64 x.path] w fun e w' => e = .returned (.tuple #[.int .i64 0, .int .i64 1]) ∧ Below w.heap.size w w' := by
  have HF := Lib.hid h
  have HDN := Lib.hid hdn
  have HNO := Lib.hid hno
  clear h hdn hno
  unfold It.frv
  go_enter Try.func10, Try.ntmps10
  go_upto_region 1 with fail
  have OX := Lib.hid (Ob.new w #[.int .i64 x.kind, .int .i64 x.src, .int .i64 x.dst, .int .i64 x.prio, .int .u64 x.msg, .int .i64 x.off, .int .i64 x.len, .int .i64 x.total, .int .i64 x.num, .slice x.da x.dn x.dc] TFr)
  have HB := Lib.hid ((Below.refl w.heap.size w).alloc (Nat.le_refl _) (.cells #[.int .i64 x.kind, .int .i64 x.src, .int .i64 x.dst, .int .i64 x.prio, .int .u64 x.msg, .int .i64 x.off, .int .i64 x.len, .int .i64 x.total, .int .i64 x.num, .slice x.da x.dn x.dc] TFr))
  have F1 := Lib.hid (HF.out.below HB.out)
  generalize w.alloc (.cells #[.int .i64 x.kind, .int .i64 x.src, .int .i64 x.dst, .int .i64 x.prio, .int .u64 x.msg, .int .i64 x.off, .int .i64 x.len, .int .i64 x.total, .int .i64 x.num, .slice x.da x.dn x.dc] TFr) = w1 at *
  obtain ⟨X, HXX⟩ : ∃ X, Hid (w.heap.size = X) := ⟨_, Lib.hid rfl⟩
  rw [HXX.out] at OX ⊢
  obtain ⟨lx, cx, fx⟩ := OX.out.blk
  have cx0 : w1.cell? ⟨X, 0, none⟩ = some (.int .i64 x.kind) := cx 0
  have cx1 : w1.cell? ⟨X, 1, none⟩ = some (.int .i64 x.src) := cx 1
  have cx2 : w1.cell? ⟨X, 2, none⟩ = some (.int .i64 x.dst) := cx 2
  have cx3 : w1.cell? ⟨X, 3, none⟩ = some (.int .i64 x.prio) := cx 3
  have cx4 : w1.cell? ⟨X, 4, none⟩ = some (.int .u64 x.msg) := cx 4
  have cx5 : w1.cell? ⟨X, 5, none⟩ = some (.int .i64 x.off) := cx 5
  have cx6 : w1.cell? ⟨X, 6, none⟩ = some (.int .i64 x.len) := cx 6
  have cx7 : w1.cell? ⟨X, 7, none⟩ = some (.int .i64 x.total) := cx 7
  have cx8 : w1.cell? ⟨X, 8, none⟩ = some (.int .i64 x.num) := cx 8
  have cx9 : w1.cell? ⟨X, 9, none⟩ = some (.slice x.da x.dn x.dc) := cx 9
  clear cx
  go_wp2_with fail
  refine (has_yes F1.out hk).mono ?_
  rintro e w2 ⟨rfl, rfl⟩
  have hck := check_any x.fr x.da x.dc hm w1
  unfold Fr.val It.fr at hck
  simp only at hck
  rw [← HDN.out] at hck
  go_wp2_with fail
  refine (hck).mono ?_
  rintro e w3 ⟨hc, hb3⟩
  have F3 := Lib.hid (F1.out.below hb3)
  have OX3 := Lib.hid (OX.out.below hb3)
  have HB3 := Lib.hid (HB.out.trans (hb3.mono HB.out.size))
  clear hb3 hck lx fx cx0 cx1 cx2 cx3 cx4 cx5 cx6 cx7 cx8 cx9
  obtain ⟨lx, cx, fx⟩ := OX3.out.blk
  have cx0 : w3.cell? ⟨X, 0, none⟩ = some (.int .i64 x.kind) := cx 0
  have cx1 : w3.cell? ⟨X, 1, none⟩ = some (.int .i64 x.src) := cx 1
  have cx2 : w3.cell? ⟨X, 2, none⟩ = some (.int .i64 x.dst) := cx 2
  have cx3 : w3.cell? ⟨X, 3, none⟩ = some (.int .i64 x.prio) := cx 3
  have cx4 : w3.cell? ⟨X, 4, none⟩ = some (.int .u64 x.msg) := cx 4
  have cx5 : w3.cell? ⟨X, 5, none⟩ = some (.int .i64 x.off) := cx 5
  have cx6 : w3.cell? ⟨X, 6, none⟩ = some (.int .i64 x.len) := cx 6
  have cx7 : w3.cell? ⟨X, 7, none⟩ = some (.int .i64 x.total) := cx 7
  have cx8 : w3.cell? ⟨X, 8, none⟩ = some (.int .i64 x.num) := cx 8
  have cx9 : w3.cell? ⟨X, 9, none⟩ = some (.slice x.da x.dn x.dc) := cx 9
  clear cx
  rcases hc with ⟨hok, rfl⟩ | ⟨hn, rfl⟩
  · rcases HNO.out with hn | ⟨_, hn⟩ | ⟨_, hn1, hn2, hn3⟩
    · exact absurd hok hn
    · clear hok
      go_wp2_with fail
      refine (has_no F3.out (k := x.dst) (.inr hn)).mono ?_
      rintro e w2 ⟨rfl, rfl⟩
      go_wp2_with fail
      go_ret2
      exact ⟨rfl, HXX.out ▸ HB3.out⟩
    · clear hok
      obtain ⟨d, hd⟩ : ∃ d : Nat, (d : Int) = x.dst := ⟨x.dst.toNat, by omega⟩
      have hhas := has_yes F3.out (k := d) (by omega)
      rw [hd] at hhas
      have hb : (x.dst == (k : Int)) = true := beq_iff_eq.2 hn3
      clear hd hn1 hn2 hn3
      go_wp2_with fail
      refine (hhas).mono ?_
      rintro e w2 ⟨rfl, rfl⟩
      go_wp2_with fail
      go_ret2
      exact ⟨rfl, HXX.out ▸ HB3.out⟩
  · clear hn
    go_wp2_with fail
    go_ret2
    exact ⟨rfl, HXX.out ▸ HB3.out⟩
def sendOk (H : Nat) (k : Int) (x : It) : Prop := 0 ≤ k ∧ k < H ∧ okF x.fr ∧ x.dst < H ∧ x.dst ≠ k
theorem send_no (h : Fa f B0 l s w) {k : Int} {x : It} (hm : 0 ≤ x.msg) (hdn : x.dn = x.bs.length) (hno : ¬ sendOk s.H k x) : Calls Try.prog 10 #[.pointer (some ⟨f, 0, none⟩), .int .i64 k, x.frv, .int .i64 x.path] w fun e w' => e = .returned (.tuple #[.int .i64 0, .int .i64 1]) ∧ Below w.heap.size w w' := by
  unfold sendOk at hno
  by_cases hk : k < 0 ∨ (s.H : Int) ≤ k
  · exact send_no0 h hk
  · obtain ⟨q, rfl⟩ : ∃ q : Nat, k = q := ⟨k.toNat, by omega⟩
    refine send_no1 h (by omega) hm hdn ?_
    by_cases hok : okF x.fr
    · have h0 := hok.dst.1
      by_cases hd : (s.H : Int) ≤ x.dst
      · exact .inr (.inl ⟨hok, hd⟩)
      · refine .inr (.inr ⟨hok, h0, by omega, ?_⟩)
        by_cases he : x.dst = q
        · exact he
        · exact absurd ⟨by omega, by omega, hok, by omega, he⟩ hno
    · exact .inl hok
end
end Go.Proofs.Ytoihhidoafgoaaa
/- The fabric (chapter 15): Serve. -/
namespace Go.Proofs.Ytoihhidoafgoaaa
open Go.RowKit

theorem quietD {P : Program} {f : FuncId} {args : Array Value} {w : World} {n : Nat} {v : Value}
    (h : Calls P f args (w.drewN n) fun e w' => e = .returned v ∧ ∃ m, w' = (w.drewN n).drewN m) : Calls P f args (w.drewN n) fun e w'' => e = .returned v ∧ ∃ m, w'' = w.drewN m :=
  h.mono fun _ _ ⟨h1, m, h2⟩ => ⟨h1, n + m, by rw [h2, World.drewN_drewN]⟩
theorem quietE {P : Program} {f : FuncId} {args : Array Value} {w : World} {a n : Nat} {v : Value}
    (h : Calls P f args (w.drewN (a + n)) fun e w' => e = .returned v ∧ ∃ m, w' = (w.drewN (a + n)).drewN m) :
    Calls P f args (w.drewN (a + n)) fun e w'' => e = .returned v ∧ ∃ m, w'' = w.drewN (a + m) :=
  h.mono fun _ _ ⟨h1, m, h2⟩ => ⟨h1, n + m, by rw [h2, World.drewN_drewN, Nat.add_assoc]⟩
structure Fs.ok (N : Nat) (s : Fs) : Prop where
  p : ∀ i, i < nP s.H s.S → (s.P i).ok N
  dst : ∀ i, i < nP s.H s.S → ∀ x, (s.P i).has x → 0 ≤ x.dst ∧ x.dst < s.H
  a : ∀ h, h < s.H → (s.A h).length ≤ N
  ai : ∀ h, h < s.H → ∀ x, x ∈ s.A h → x.ok
  lost : 0 ≤ s.lost ∧ s.lost ≤ N
inductive ServeRel (s : Fs) (n : Nat) (now : Int) : Bool → Fs → Prop
  | none (x : It) (p' : Pp) : TakeRel (s.P n) (max (s.P n).now now) x false p' → ServeRel s n now false { s with P := upd s.P n p' }
  | arr (x : It) (p' : Pp) : TakeRel (s.P n) (max (s.P n).now now) x true p' → s.H ≤ n → n < 2 * s.H → ServeRel s n now true { s with P := upd s.P n p', A := upd s.A (n - s.H) (s.A (n - s.H) ++ [x]) }
  | move (x : It) (p' : Pp) (q : Nat) (r : Int) (p'' : Pp) : TakeRel (s.P n) (max (s.P n).now now) x true p' → nxt s.H s.S n x.dst.toNat x.path = ((q : Int), false) → q < nP s.H s.S → PutRel (upd s.P n p' q) x r p'' → ServeRel s n now true (lostBy { s with P := upd (upd s.P n p') q p'' } r)
  | gone (x : It) (p' : Pp) : TakeRel (s.P n) (max (s.P n).now now) x true p' → nxt s.H s.S n x.dst.toNat x.path = (-1, false) → ServeRel s n now true (lostBy { s with P := upd s.P n p' } 3)
theorem TakeRel.mem {p p' : Pp} {T : Int} {x : It} (h : TakeRel p T x true p') : p.has x := by
  cases h with
  | cred _ r h1 _ => exact .inl (by rw [h1]; exact List.mem_cons_self)
  | line _ i _ r _ hi h1 _ => exact .inr ⟨i, hi, by rw [h1]; exact List.mem_cons_self⟩
section
variable {f B0 : Nat} {l : Fl} {s : Fs} {w w' : World}
theorem FaPost.step {l1 : Fl} {s1 s2 : Fs} {w1 w2 : World} (K : Kept (FM f l s) w w1) (G : ∀ x, FM f l1 s1 x → FM f l s x ∨ w.heap.size ≤ x) (h : FaPost f B0 l1 s1 s2 w1 w2) : FaPost f B0 l s s2 w w2 := by
  obtain ⟨l2, h1, h2, h3⟩ := h
  refine ⟨l2, h1, K.trans2 h2 fun x hx hh => (G x hh).elim id fun hg => absurd hx (Nat.not_lt.2 hg), fun x hx => ?_⟩
  rcases h3 x hx with h4 | h4
  · exact G x h4
  · exact .inr (Nat.le_trans K.size h4)
/-- where it goes: another port, or none -/
theorem nxt_is {H S p d : Nat} {path : Int} (hs : Hs H S) (hd : d < H) (_ : p < nP H S) : (nxt H S p d path = (-1, true) ∧ H ≤ p ∧ p < 2 * H) ∨ nxt H S p d path = (-1, false) ∨ ∃ q : Nat, q < nP H S ∧ nxt H S p d path = ((q : Int), false) := by
  have h1 := hs.h
  have h2 := hs.s
  have h3 := hs.lv
  have h4 := hs.ls
  have h5 := nP_ls H S
  unfold nxt
  split
  · split
    · exact .inr (.inr ⟨H + d, by omega, rfl⟩)
    · have e1 := Int.emod_nonneg path (show (S : Int) ≠ 0 by omega)
      have e2 := Int.emod_lt_of_pos path (show (0 : Int) < S by omega)
      have e3 : p / 2 * S + (S - 1) < lvs H * S := by
        have : (p / 2 + 1) * S ≤ lvs H * S := Nat.mul_le_mul_right _ (by unfold lvs; omega)
        rw [Nat.succ_mul] at this
        omega
      refine .inr (.inr ⟨2 * H + p / 2 * S + (path % (S : Int)).toNat, ?_, ?_⟩)
      · rw [h5]
        have : (path % (S : Int)).toNat ≤ S - 1 := by omega
        omega
      · rw [Prod.mk.injEq]
        exact ⟨by omega, rfl⟩
  · split
    · exact .inl ⟨rfl, by omega, by omega⟩
    · split
      · have e1 : (p - 2 * H) % S ≤ S - 1 := by have := Nat.mod_lt (p - 2 * H) (show S > 0 by omega); omega
        have e2 : ((p - 2 * H) % S + 1) * lvs H ≤ S * lvs H := Nat.mul_le_mul_right _ (by omega)
        rw [Nat.succ_mul, Nat.mul_comm S] at e2
        have e3 : d / 2 < lvs H := by unfold lvs; omega
        exact .inr (.inr ⟨2 * H + lvs H * S + (p - 2 * H) % S * lvs H + d / 2, by omega, rfl⟩)
      · split
        · exact .inr (.inr ⟨H + d, by omega, rfl⟩)
        · exact .inr (.inl rfl)
theorem info_fr : (Try.prog.info? 34).map (fun i => (i.zero, i.size, i.bytes)) = some (some (.agg #[.int .i64 0, .int .i64 0, .int .i64 0, .int .i64 0, .int .u64 0, .int .i64 0, .int .i64 0, .int .i64 0, .int .i64 0, .slice none 0 0]), 10, 96) := by kernel_rfl
theorem serve_no (h : Fa f B0 l s w) {k now : Int} (hk : k < 0 ∨ (nP s.H s.S : Int) ≤ k) : Calls Try.prog 12 #[.pointer (some ⟨f, 0, none⟩), .int .i64 k, .int .i64 now] w fun e w' => e = .returned (.tuple #[.bool false, .int .i64 5]) ∧ w = w' := by
  go_enter Try.func12, Try.ntmps12
  go_wp2_with fail
  refine (at_no h hk).mono ?_
  rintro e w1 ⟨rfl, rfl⟩
  go_wp2_with fail
  go_ret2
  exact ⟨rfl, rfl⟩
theorem serve_ni (k now : Int) : Calls Try.prog 12 #[.pointer none, .int .i64 k, .int .i64 now] w fun e w' => e = .returned (.tuple #[.bool false, .int .i64 5]) ∧ w = w' := by
  go_enter Try.func12, Try.ntmps12
  go_wp2_with fail
  refine (at_ni k).mono ?_
  rintro e w1 ⟨rfl, rfl⟩
  go_wp2_with fail
  go_ret2
  exact ⟨rfl, rfl⟩
def ServePost (f B0 : Nat) (l : Fl) (s : Fs) (n : Nat) (now : Int) (w : World) (e : Ending) (w' : World) : Prop := ∃ b s', e = .returned (.tuple #[.bool b, .int .i64 0]) ∧ ServeRel s n now b s' ∧ FaPost f B0 l s s' w w'
set_option maxRecDepth 100000 in
set_option maxHeartbeats 4000000 in
theorem serve_yes (h : Fa f B0 l s w) {n N : Nat} {now : Int} (hn : n < nP s.H s.S) (ho : s.ok N) (hN : N ≤ 1000000) : Calls Try.prog 12 #[.pointer (some ⟨f, 0, none⟩), .int .i64 n, .int .i64 now] w (ServePost f B0 l s n now w) := by
  have HF := Lib.hid h
  have HO := Lib.hid ho
  have hh := h.hs.h
  have hnp := h.hs.np
  clear h ho
  go_enter Try.func12, Try.ntmps12
  go_wp2_with fail
  refine (at_yes HF.out hn).mono ?_
  rintro e w1 ⟨rfl, rfl⟩
  go_wp2_with fail
  refine (take_any (l.b n) B0 (l.l n) (s.P n) N now w (HF.out.po n hn) (HO.out.p n hn) hN).mono ?_
  rintro e w1 ⟨x, ok, p1, rfl, hp1, hrel⟩
  obtain ⟨l1, hf1, hk1, hk1', hg1⟩ := HF.out.port hn hp1
  have F1 := Lib.hid hf1
  have K1 := Lib.hid hk1
  have G1 := Lib.hid hg1
  have HREL := Lib.hid hrel
  have DX : Hid (ok = true → Da B0 w1 x) := Lib.hid (fun e => by
    subst e
    exact ((HF.out.po n hn).data x hrel.mem).keptT hk1' fun g hg _ => (HF.out.po n hn).ty hg)
  clear hp1 hrel hf1 hk1 hk1' hg1
  unfold boxV
  go_upto_region 5 with fail
  have OX := Lib.hid (Ob.new w1 #[.int .i64 x.kind, .int .i64 x.src, .int .i64 x.dst, .int .i64 x.prio, .int .u64 x.msg, .int .i64 x.off, .int .i64 x.len, .int .i64 x.total, .int .i64 x.num, .slice x.da x.dn x.dc, .int .i64 x.path] TIt)
  have KA : Hid (Below w1.heap.size w1 (w1.alloc (.cells #[.int .i64 x.kind, .int .i64 x.src, .int .i64 x.dst, .int .i64 x.prio, .int .u64 x.msg, .int .i64 x.off, .int .i64 x.len, .int .i64 x.total, .int .i64 x.num, .slice x.da x.dn x.dc, .int .i64 x.path] TIt))) := Lib.hid ((Below.refl _ w1).alloc (Nat.le_refl _) _)
  have F2 := Lib.hid (F1.out.below KA.out)
  have DX2 : Hid (ok = true → Da B0 (w1.alloc (.cells #[.int .i64 x.kind, .int .i64 x.src, .int .i64 x.dst, .int .i64 x.prio, .int .u64 x.msg, .int .i64 x.off, .int .i64 x.len, .int .i64 x.total, .int .i64 x.num, .slice x.da x.dn x.dc, .int .i64 x.path] TIt)) x) := Lib.hid (fun e => (DX.out e).kept (Kept.of_below (M := fun _ => False) KA.out) (fun _ _ h => h))
  have K2 : Hid (Kept (FM f l s) w (w1.alloc (.cells #[.int .i64 x.kind, .int .i64 x.src, .int .i64 x.dst, .int .i64 x.prio, .int .u64 x.msg, .int .i64 x.off, .int .i64 x.len, .int .i64 x.total, .int .i64 x.num, .slice x.da x.dn x.dc, .int .i64 x.path] TIt))) := Lib.hid (K1.out.trans (Kept.of_below KA.out))
  generalize hw2 : w1.alloc (.cells #[.int .i64 x.kind, .int .i64 x.src, .int .i64 x.dst, .int .i64 x.prio, .int .u64 x.msg, .int .i64 x.off, .int .i64 x.len, .int .i64 x.total, .int .i64 x.num, .slice x.da x.dn x.dc, .int .i64 x.path] TIt) = w2 at *
  obtain ⟨X, HX⟩ : ∃ X, Hid (w1.heap.size = X) := ⟨_, Lib.hid rfl⟩
  rw [HX.out] at OX ⊢
  have HLT : Hid (∀ y, FM f { l with l := upd l.l n l1 } { s with P := upd s.P n p1 } y → y < X) := Lib.hid (fun y hy => by have := F1.out.lt hy; rw [← HX.out]; exact this)
  clear hw2 DX KA K1 F1
  cases ok with
  | false =>
    go_wp2_with fail
    go_ret2
    exact ⟨false, _, rfl, .none x p1 HREL.out, _, F2.out, K2.out, G1.out⟩
  | true =>
    have hdst := HO.out.dst n hn x HREL.out.mem
    obtain ⟨d, hd⟩ : ∃ d : Nat, (d : Int) = x.dst := ⟨x.dst.toNat, by omega⟩
    have hdt : x.dst.toNat = d := by omega
    have hdH : d < s.H := by omega
    have hnx := fun k => net_next (path := x.path) (Ob.dn (n := k) F2.out.net) F2.out.hs hdH hn
    rw [hd] at hnx
    have hni := nxt_is (path := x.path) F2.out.hs hdH hn
    have HX3 := Lib.hid hdt
    clear hd hdt hdst hdH
    obtain ⟨lx, cx, fx⟩ := OX.out.blk
    have cx0 : w2.cell? ⟨X, 0, none⟩ = some (.int .i64 x.kind) := cx 0
    have cx1 : w2.cell? ⟨X, 1, none⟩ = some (.int .i64 x.src) := cx 1
    have cx2 : w2.cell? ⟨X, 2, none⟩ = some (.int .i64 x.dst) := cx 2
    have cx3 : w2.cell? ⟨X, 3, none⟩ = some (.int .i64 x.prio) := cx 3
    have cx4 : w2.cell? ⟨X, 4, none⟩ = some (.int .u64 x.msg) := cx 4
    have cx5 : w2.cell? ⟨X, 5, none⟩ = some (.int .i64 x.off) := cx 5
    have cx6 : w2.cell? ⟨X, 6, none⟩ = some (.int .i64 x.len) := cx 6
    have cx7 : w2.cell? ⟨X, 7, none⟩ = some (.int .i64 x.total) := cx 7
    have cx8 : w2.cell? ⟨X, 8, none⟩ = some (.int .i64 x.num) := cx 8
    have cx9 : w2.cell? ⟨X, 9, none⟩ = some (.slice x.da x.dn x.dc) := cx 9
    have cx10 : w2.cell? ⟨X, 10, none⟩ = some (.int .i64 x.path) := cx 10
    clear cx
    obtain ⟨l0, c0, c1, c2, c3⟩ := F2.out.cells
    rcases hni with ⟨hxe, hnH, hn2⟩ | hxe | ⟨q, hq, hxe⟩
    · rw [show nxt s.H s.S n d x.path = (-1, true) from hxe] at hnx
      go_wp2_with fail
      refine wp_region_quiet_lit (by kernel_rfl) (by kernel_rfl) ?_
      try simp only [List.append]
      repeat (first | go_big_quiet_step (first | (go_at_call 40; exact quietD (hnx _)) | (go_at_call 40; exact quietE (hnx _))) | quiet_step (first | (go_at_call 40; exact quietD (hnx _)) | (go_at_call 40; exact quietE (hnx _))))
      refine wpQuiet_nil ?_
      intro W hW
      have F3 : Hid (Fa f B0 { l with l := upd l.l n l1 } { s with P := upd s.P n p1 } W) := by obtain ⟨m, rfl⟩ := hW; exact Lib.hid (F2.out.dn m)
      have OX3 : Hid (Ob W X #[.int .i64 x.kind, .int .i64 x.src, .int .i64 x.dst, .int .i64 x.prio, .int .u64 x.msg, .int .i64 x.off, .int .i64 x.len, .int .i64 x.total, .int .i64 x.num, .slice x.da x.dn x.dc, .int .i64 x.path] TIt) := by obtain ⟨m, rfl⟩ := hW; exact Lib.hid OX.out.dn
      have K3 : Hid (Kept (FM f l s) w W) := by obtain ⟨m, rfl⟩ := hW; exact Lib.hid (K2.out.dnR m)
      have DX3 : Hid (Da B0 W x) := by obtain ⟨m, rfl⟩ := hW; exact Lib.hid ((DX2.out trivial).kept (Kept.dn (fun _ => False) _ _) (fun _ _ h => h))
      clear hW hnx F2 OX K2 DX2 lx fx cx0 cx1 cx2 cx3 cx4 cx5 cx6 cx7 cx8 cx9 cx10 l0 c0 c1 c2 c3
      obtain ⟨lx, cx, fx⟩ := OX3.out.blk
      have cx0 : W.cell? ⟨X, 0, none⟩ = some (.int .i64 x.kind) := cx 0
      have cx1 : W.cell? ⟨X, 1, none⟩ = some (.int .i64 x.src) := cx 1
      have cx2 : W.cell? ⟨X, 2, none⟩ = some (.int .i64 x.dst) := cx 2
      have cx3 : W.cell? ⟨X, 3, none⟩ = some (.int .i64 x.prio) := cx 3
      have cx4 : W.cell? ⟨X, 4, none⟩ = some (.int .u64 x.msg) := cx 4
      have cx5 : W.cell? ⟨X, 5, none⟩ = some (.int .i64 x.off) := cx 5
      have cx6 : W.cell? ⟨X, 6, none⟩ = some (.int .i64 x.len) := cx 6
      have cx7 : W.cell? ⟨X, 7, none⟩ = some (.int .i64 x.total) := cx 7
      have cx8 : W.cell? ⟨X, 8, none⟩ = some (.int .i64 x.num) := cx 8
      have cx9 : W.cell? ⟨X, 9, none⟩ = some (.slice x.da x.dn x.dc) := cx 9
      have cx10 : W.cell? ⟨X, 10, none⟩ = some (.int .i64 x.path) := cx 10
      clear cx
      obtain ⟨l0, c0, c1, c2, c3⟩ := F3.out.cells
      obtain ⟨k, hk⟩ : ∃ k, n - s.H = k := ⟨_, rfl⟩
      have hkH : k < s.H := by omega
      have HKK := Lib.hid hk
      clear hk
      go_wp2_with fail
      refine (net_host F3.out.net F3.out.hs hnH hn2).mono ?_
      rintro e w4 ⟨rfl, hm⟩
      rw [HKK.out]
      have F4 : Hid (Fa f B0 { l with l := upd l.l n l1 } { s with P := upd s.P n p1 } w4) := by obtain ⟨m, rfl⟩ := hm; exact Lib.hid (F3.out.dn m)
      have OX4 : Hid (Ob w4 X #[.int .i64 x.kind, .int .i64 x.src, .int .i64 x.dst, .int .i64 x.prio, .int .u64 x.msg, .int .i64 x.off, .int .i64 x.len, .int .i64 x.total, .int .i64 x.num, .slice x.da x.dn x.dc, .int .i64 x.path] TIt) := by obtain ⟨m, rfl⟩ := hm; exact Lib.hid OX3.out.dn
      have K4 : Hid (Kept (FM f l s) w w4) := by obtain ⟨m, rfl⟩ := hm; exact Lib.hid (K3.out.dnR m)
      have DX4 : Hid (Da B0 w4 x) := by obtain ⟨m, rfl⟩ := hm; exact Lib.hid (DX3.out.kept (Kept.dn (fun _ => False) _ _) (fun _ _ h => h))
      clear hm F3 OX3 K3 DX3 lx fx cx0 cx1 cx2 cx3 cx4 cx5 cx6 cx7 cx8 cx9 cx10 l0 c0 c1 c2 c3
      obtain ⟨lx, cx, fx⟩ := OX4.out.blk
      have cx0 : w4.cell? ⟨X, 0, none⟩ = some (.int .i64 x.kind) := cx 0
      have cx1 : w4.cell? ⟨X, 1, none⟩ = some (.int .i64 x.src) := cx 1
      have cx2 : w4.cell? ⟨X, 2, none⟩ = some (.int .i64 x.dst) := cx 2
      have cx3 : w4.cell? ⟨X, 3, none⟩ = some (.int .i64 x.prio) := cx 3
      have cx4 : w4.cell? ⟨X, 4, none⟩ = some (.int .u64 x.msg) := cx 4
      have cx5 : w4.cell? ⟨X, 5, none⟩ = some (.int .i64 x.off) := cx 5
      have cx6 : w4.cell? ⟨X, 6, none⟩ = some (.int .i64 x.len) := cx 6
      have cx7 : w4.cell? ⟨X, 7, none⟩ = some (.int .i64 x.total) := cx 7
      have cx8 : w4.cell? ⟨X, 8, none⟩ = some (.int .i64 x.num) := cx 8
      have cx9 : w4.cell? ⟨X, 9, none⟩ = some (.slice x.da x.dn x.dc) := cx 9
      have cx10 : w4.cell? ⟨X, 10, none⟩ = some (.int .i64 x.path) := cx 10
      clear cx
      obtain ⟨l0, c0, c1, c2, c3⟩ := F4.out.cells
      obtain ⟨la, ca, fa⟩ := F4.out.acell
      obtain ⟨av, cv, hv, hv1, hv2⟩ := F4.out.row_form hkH
      have cak := (ca k hkH).trans (congrArg some hv)
      have HV := Lib.hid hv
      have hrow := F4.out.rows k hkH
      have hlen := HO.out.a k hkH
      clear ca c0 c1 c3 hv
      go_wp2_with fail
      have hMf : ¬ Lm (l.V k) f := fun hh => absurd ((own_ty hrow hh).one F4.out.ob.ty) (by decide)
      have hMa : ¬ Lm (l.V k) l.ag := fun hh => absurd ((own_ty hrow hh).one (own_ty F4.out.arr rfl)) (by decide)
      have hMX : ¬ Lm (l.V k) X := fun hh => absurd ((own_ty hrow hh).one OX4.out.ty) (by decide)
      have hbw : B0 ≤ w4.heap.size := Nat.le_trans F4.out.base (Nat.le_of_lt l0)
      refine wp_heads (M := (Lm (l.V k))) 17 (by kernel_rfl) (by kernel_rfl) ?_
      refine hd_quiet [true, true, true, true, true, true, true, true, true, true, true, true, true, true, false, false, false, false] (by kernel_rfl) ?_
      simp only [pickAt]
      repeat (go_big_quiet_step (fail))
      refine wpQuiet_nil ?_
      refine hd_act 14 rfl (by kernel_rfl) ?_
      refine run_want rfl ?_
      intro A hA
      go_simp
      have R5 := Lib.hid (Rd.one (k := 10) w4.drew #[.int .i64 x.kind, .int .i64 x.src, .int .i64 x.dst, .int .i64 x.prio, .int .u64 x.msg, .int .i64 x.off, .int .i64 x.len, .int .i64 x.total, .int .i64 x.num, .slice x.da x.dn x.dc] TFr rfl)
      have K5 : Hid (Kept (fun _ => False) w4 (w4.drew.alloc (.cells #[.int .i64 x.kind, .int .i64 x.src, .int .i64 x.dst, .int .i64 x.prio, .int .u64 x.msg, .int .i64 x.off, .int .i64 x.len, .int .i64 x.total, .int .i64 x.num, .slice x.da x.dn x.dc] TFr))) := Lib.hid ((Kept.drew _ w4).alloc _)
      have own5 := own_kept hrow K5.out (fun _ _ h => h)
      have hbw5 : B0 ≤ (w4.drew.alloc (.cells #[.int .i64 x.kind, .int .i64 x.src, .int .i64 x.dst, .int .i64 x.prio, .int .u64 x.msg, .int .i64 x.off, .int .i64 x.len, .int .i64 x.total, .int .i64 x.num, .slice x.da x.dn x.dc] TFr)).heap.size := Nat.le_trans hbw K5.out.size
      refine hA _ _ ((Kept.refl _ _).alloc _) ?_
      try simp only [Act.put, List.setIfInBounds_toArray, List.set_cons_zero, List.set_cons_succ]
      clear A hA
      refine hd_act 15 rfl (by kernel_rfl) ?_
      refine run_want rfl ?_
      intro A hA
      rw [show ({ l with l := upd l.l n l1 } : Fl).V k = _ from HV.out] at own5
      refine wp_appAt (.tmp 59) (.tmp 62) 63 (by rfl) info_fr Try.underlying63 rfl (by decide) own5 R5.out (by rfl) (by rfl) (by simp [Value.oneCell']) (by show ((s.A k).length + 1) * 96 ≤ _; omega) hbw5 ?_
      intro v8 w8 ho8 hg8 hb8
      obtain ⟨a8, c8, rfl, _, _⟩ := (Rd.of_own ho8).form
      have hG : Kept (Lm (l.V k)) (w4.drew.alloc (.cells #[.int .i64 x.kind, .int .i64 x.src, .int .i64 x.dst, .int .i64 x.prio, .int .u64 x.msg, .int .i64 x.off, .int .i64 x.len, .int .i64 x.total, .int .i64 x.num, .slice x.da x.dn x.dc] TFr)) w8 := Kept.of_grown (M := Lm (l.V k)) hg8 fun z hz => by show (l.V k).ownBlock = _; rw [show l.V k = _ from HV.out]; exact hz
      have K8 : Hid (Kept (Lm (l.V k)) w4 w8) := Lib.hid ((K5.out.mono fun _ _ h => h.elim).trans hG)
      have hs5 := K5.out.size
      have R8 := Lib.hid (F4.out.row (k := k) (v' := .slice a8 ((s.A k).length + 1) c8) (A' := s.A k ++ [x]) hkH K8.out (by simpa [It.fro] using ho8) (by
        rw [show ({ l with l := upd l.l n l1 } : Fl).V k = _ from HV.out]
        rcases hb8 with h | h
        · exact .inl h
        · refine .inr fun z hz => ?_
          rw [h] at hz; cases hz
          exact hs5) (fun z hz => by
        rcases List.mem_append.1 hz with hz | hz
        · exact .inl hz
        · rw [List.mem_singleton.1 hz]
          exact .inr (DX4.out.keptT K8.out fun g hg _ => ⟨_, own_ty hrow hg, by decide⟩)))
      have hla : l.ag < w8.heap.size := Nat.lt_of_lt_of_le la K8.out.size
      have hfa : ∀ i, w8.frozen? ⟨l.ag, i, none⟩ = false := fun i => (K8.out.frozen l.ag i la hMa).trans (fa i)
      have hca : w8.cell? ⟨l.ag, k, none⟩ = some (.slice av (s.A k).length cv) := (K8.out.cell l.ag k la hMa).trans cak
      refine hA _ _ (hG) ?_
      try simp only [Act.put, List.setIfInBounds_toArray, List.set_cons_zero, List.set_cons_succ]
      clear A hA
      clear ho8 hg8 hb8 hG
      refine hd_quiet [false, false, false, false, false, false, false, false, false, false, false, false, false, false, false, false, true, false] (by kernel_rfl) ?_
      simp only [pickAt]
      repeat (go_big_quiet_step (fail))
      refine wpQuiet_nil ?_
      refine hd_tail rfl (by kernel_rfl) ?_
      simp only [List.drop_succ_cons, List.drop_zero]
      go_wp2
      refine NoPanic.normal ?_
      go_wp2
      go_ret2
      have hsr := ServeRel.arr x p1 HREL.out hnH hn2
      rw [HKK.out] at hsr
      exact ⟨true, _, rfl, hsr, FaPost.step K4.out G1.out ⟨_, R8.out⟩⟩
    · rw [show nxt s.H s.S n d x.path = (-1, false) from hxe] at hnx
      go_wp2_with fail
      refine wp_region_quiet_lit (by kernel_rfl) (by kernel_rfl) ?_
      try simp only [List.append]
      repeat (first | go_big_quiet_step (first | (go_at_call 40; exact quietD (hnx _)) | (go_at_call 40; exact quietE (hnx _))) | quiet_step (first | (go_at_call 40; exact quietD (hnx _)) | (go_at_call 40; exact quietE (hnx _))))
      refine wpQuiet_nil ?_
      intro W hW
      have F3 : Hid (Fa f B0 { l with l := upd l.l n l1 } { s with P := upd s.P n p1 } W) := by obtain ⟨m, rfl⟩ := hW; exact Lib.hid (F2.out.dn m)
      have OX3 : Hid (Ob W X #[.int .i64 x.kind, .int .i64 x.src, .int .i64 x.dst, .int .i64 x.prio, .int .u64 x.msg, .int .i64 x.off, .int .i64 x.len, .int .i64 x.total, .int .i64 x.num, .slice x.da x.dn x.dc, .int .i64 x.path] TIt) := by obtain ⟨m, rfl⟩ := hW; exact Lib.hid OX.out.dn
      have K3 : Hid (Kept (FM f l s) w W) := by obtain ⟨m, rfl⟩ := hW; exact Lib.hid (K2.out.dnR m)
      have DX3 : Hid (Da B0 W x) := by obtain ⟨m, rfl⟩ := hW; exact Lib.hid ((DX2.out trivial).kept (Kept.dn (fun _ => False) _ _) (fun _ _ h => h))
      clear hW hnx F2 OX K2 DX2 lx fx cx0 cx1 cx2 cx3 cx4 cx5 cx6 cx7 cx8 cx9 cx10 l0 c0 c1 c2 c3
      obtain ⟨lx, cx, fx⟩ := OX3.out.blk
      have cx0 : W.cell? ⟨X, 0, none⟩ = some (.int .i64 x.kind) := cx 0
      have cx1 : W.cell? ⟨X, 1, none⟩ = some (.int .i64 x.src) := cx 1
      have cx2 : W.cell? ⟨X, 2, none⟩ = some (.int .i64 x.dst) := cx 2
      have cx3 : W.cell? ⟨X, 3, none⟩ = some (.int .i64 x.prio) := cx 3
      have cx4 : W.cell? ⟨X, 4, none⟩ = some (.int .u64 x.msg) := cx 4
      have cx5 : W.cell? ⟨X, 5, none⟩ = some (.int .i64 x.off) := cx 5
      have cx6 : W.cell? ⟨X, 6, none⟩ = some (.int .i64 x.len) := cx 6
      have cx7 : W.cell? ⟨X, 7, none⟩ = some (.int .i64 x.total) := cx 7
      have cx8 : W.cell? ⟨X, 8, none⟩ = some (.int .i64 x.num) := cx 8
      have cx9 : W.cell? ⟨X, 9, none⟩ = some (.slice x.da x.dn x.dc) := cx 9
      have cx10 : W.cell? ⟨X, 10, none⟩ = some (.int .i64 x.path) := cx 10
      clear cx
      obtain ⟨l0, c0, c1, c2, c3⟩ := F3.out.cells
      clear c0 c1 c2 c3
      go_wp2_with fail
      have hMX : ¬ Only f X := fun hh => absurd (Ty.one (by rw [show X = f from hh] at OX3; exact OX3.out.ty) F3.out.ob.ty) (by decide)
      have hl := HO.out.lost
      refine wp_run (M := (Only f)) (stages [([true, true, true, false, true, false, false], 3), ([false, false, false, false, false, false, false], 5), ([false, false, false, false, false, false, false], 6)] [false, false, false, false, false, false, false]) (by kernel_rfl) (by kernel_rfl) ?_
      refine run_stage rfl ?_
      simp only [pickAt]
      repeat (go_big_quiet_step (fail))
      refine wpQuiet_nil ?_
      refine run_want rfl ?_
      intro A hA
      go_simp
      refine (at_no (F3.out.keptF (Kept.drew _ W)) (.inl (by decide))).mono ?_
      rintro e w4 ⟨rfl, rfl⟩
      refine hA _ _ (Kept.refl _ _) ?_
      try simp only [Act.put, List.setIfInBounds_toArray, List.set_cons_zero, List.set_cons_succ]
      clear A hA
      refine run_stage rfl ?_
      simp only [pickAt]
      repeat (go_big_quiet_step (fail))
      refine wpQuiet_nil ?_
      refine run_want rfl ?_
      intro A hA
      go_simp
      have hpn := put_nil x W.drew
      unfold It.val at hpn
      refine hpn.mono ?_
      rintro e w5 ⟨rfl, hb5⟩
      have F5 := Lib.hid (F3.out.keptF ((Kept.drew _ W).trans (Kept.of_below hb5)))
      have K5 := Lib.hid (K3.out.trans ((Kept.drew _ W).trans (Kept.of_below hb5)))
      refine hA _ _ (Kept.of_below hb5) ?_
      try simp only [Act.put, List.setIfInBounds_toArray, List.set_cons_zero, List.set_cons_succ]
      clear A hA
      clear hpn hb5
      refine run_stage rfl ?_
      simp only [pickAt]
      repeat (go_big_quiet_step (fail))
      refine wpQuiet_nil ?_
      refine run_want rfl ?_
      intro A hA
      go_simp
      refine (counts_any F5.out 3 (by show 0 ≤ s.lost ∧ s.lost ≤ _; omega)).mono ?_
      rintro e w6 ⟨rfl, hf6, hk6⟩
      have P6 := Lib.hid (FaPost.count K5.out G1.out hf6 hk6)
      refine hA _ _ (hk6) ?_
      try simp only [Act.put, List.setIfInBounds_toArray, List.set_cons_zero, List.set_cons_succ]
      clear A hA
      clear hf6 hk6
      refine run_last ?_
      simp only [pickAt]
      repeat (go_big_quiet_step (fail))
      refine wpQuiet_nil ?_
      go_wp2_with fail
      go_ret2
      have hsr := ServeRel.gone (s := s) (n := n) (now := now) x p1 HREL.out (by rw [HX3.out]; exact hxe)
      exact ⟨true, _, rfl, hsr, P6.out⟩
    · rw [show nxt s.H s.S n d x.path = ((q : Int), false) from hxe] at hnx
      go_wp2_with fail
      refine wp_region_quiet_lit (by kernel_rfl) (by kernel_rfl) ?_
      try simp only [List.append]
      repeat (first | go_big_quiet_step (first | (go_at_call 40; exact quietD (hnx _)) | (go_at_call 40; exact quietE (hnx _))) | quiet_step (first | (go_at_call 40; exact quietD (hnx _)) | (go_at_call 40; exact quietE (hnx _))))
      refine wpQuiet_nil ?_
      intro W hW
      have F3 : Hid (Fa f B0 { l with l := upd l.l n l1 } { s with P := upd s.P n p1 } W) := by obtain ⟨m, rfl⟩ := hW; exact Lib.hid (F2.out.dn m)
      have OX3 : Hid (Ob W X #[.int .i64 x.kind, .int .i64 x.src, .int .i64 x.dst, .int .i64 x.prio, .int .u64 x.msg, .int .i64 x.off, .int .i64 x.len, .int .i64 x.total, .int .i64 x.num, .slice x.da x.dn x.dc, .int .i64 x.path] TIt) := by obtain ⟨m, rfl⟩ := hW; exact Lib.hid OX.out.dn
      have K3 : Hid (Kept (FM f l s) w W) := by obtain ⟨m, rfl⟩ := hW; exact Lib.hid (K2.out.dnR m)
      have DX3 : Hid (Da B0 W x) := by obtain ⟨m, rfl⟩ := hW; exact Lib.hid ((DX2.out trivial).kept (Kept.dn (fun _ => False) _ _) (fun _ _ h => h))
      clear hW hnx F2 OX K2 DX2 lx fx cx0 cx1 cx2 cx3 cx4 cx5 cx6 cx7 cx8 cx9 cx10 l0 c0 c1 c2 c3
      obtain ⟨lx, cx, fx⟩ := OX3.out.blk
      have cx0 : W.cell? ⟨X, 0, none⟩ = some (.int .i64 x.kind) := cx 0
      have cx1 : W.cell? ⟨X, 1, none⟩ = some (.int .i64 x.src) := cx 1
      have cx2 : W.cell? ⟨X, 2, none⟩ = some (.int .i64 x.dst) := cx 2
      have cx3 : W.cell? ⟨X, 3, none⟩ = some (.int .i64 x.prio) := cx 3
      have cx4 : W.cell? ⟨X, 4, none⟩ = some (.int .u64 x.msg) := cx 4
      have cx5 : W.cell? ⟨X, 5, none⟩ = some (.int .i64 x.off) := cx 5
      have cx6 : W.cell? ⟨X, 6, none⟩ = some (.int .i64 x.len) := cx 6
      have cx7 : W.cell? ⟨X, 7, none⟩ = some (.int .i64 x.total) := cx 7
      have cx8 : W.cell? ⟨X, 8, none⟩ = some (.int .i64 x.num) := cx 8
      have cx9 : W.cell? ⟨X, 9, none⟩ = some (.slice x.da x.dn x.dc) := cx 9
      have cx10 : W.cell? ⟨X, 10, none⟩ = some (.int .i64 x.path) := cx 10
      clear cx
      obtain ⟨l0, c0, c1, c2, c3⟩ := F3.out.cells
      clear c0 c1 c2 c3
      go_wp2_with fail
      have hMX : ¬ (PM (l.b q) (upd l.l n l1 q) X ∨ X = f) := fun hh => by
        refine absurd (HLT.out X ?_) (Nat.lt_irrefl _)
        rcases hh with hh | hh
        · exact .inr (.inr (.inr (.inr (.inr ⟨q, hq, hh⟩))))
        · exact .inl hh
      have hl := HO.out.lost
      have hpo : (upd s.P n p1 q).ok N := by
        by_cases e : q = n
        · subst e; rw [upd_same]; exact HREL.out.ok (HO.out.p _ hn)
        · rw [upd_other _ _ e]; exact HO.out.p q hq
      have hxo := (HO.out.p n hn).items x HREL.out.mem
      refine wp_run (M := (fun y => PM (l.b q) (upd l.l n l1 q) y ∨ y = f)) (stages [([true, true, true, false, true, false, false], 3), ([false, false, false, false, false, false, false], 5), ([false, false, false, false, false, false, false], 6)] [false, false, false, false, false, false, false]) (by kernel_rfl) (by kernel_rfl) ?_
      refine run_stage rfl ?_
      simp only [pickAt]
      repeat (go_big_quiet_step (fail))
      refine wpQuiet_nil ?_
      refine run_want rfl ?_
      intro A hA
      go_simp
      refine (at_yes (F3.out.keptF (Kept.drew _ W)) hq).mono ?_
      rintro e w4 ⟨rfl, rfl⟩
      refine hA _ _ (Kept.refl _ _) ?_
      clear A hA
      refine run_stage rfl ?_
      simp only [pickAt]
      repeat (go_big_quiet_step (fail))
      refine wpQuiet_nil ?_
      refine run_want rfl ?_
      intro A hA
      go_simp
      have hpu := put_any (l.b q) B0 (upd l.l n l1 q) (upd s.P n p1 q) N x W.drew ((F3.out.keptF (Kept.drew _ W)).po q hq) (Rd.of_own (DX3.out.kept (Kept.drew (fun _ => False) W) (fun _ _ h => h))) hpo hN hxo
      unfold It.val at hpu
      refine hpu.mono ?_
      rintro e w5 ⟨r, p6, rfl, hp6, hrel6⟩
      obtain ⟨l6, hf6, hk6, hk6', hg6⟩ := (F3.out.keptF (Kept.drew _ W)).port hq hp6
      have F6 := Lib.hid hf6
      have K6 := Lib.hid ((Kept.drew _ W).trans hk6)
      have G6 := Lib.hid hg6
      have HREL6 := Lib.hid hrel6
      refine hA _ _ (hk6'.mono (fun _ _ h => .inl h)) ?_
      try simp only [Act.put, List.setIfInBounds_toArray, List.set_cons_zero, List.set_cons_succ]
      clear A hA
      clear hpu hp6 hf6 hk6 hk6' hg6 hrel6
      refine run_stage rfl ?_
      simp only [pickAt]
      repeat (go_big_quiet_step (fail))
      refine wpQuiet_nil ?_
      refine run_want rfl ?_
      intro A hA
      go_simp
      refine (counts_any F6.out r (by show 0 ≤ s.lost ∧ s.lost ≤ _; omega)).mono ?_
      rintro e w7 ⟨rfl, hf7, hk7⟩
      have P7 := Lib.hid (FaPost.step K3.out G1.out (FaPost.count K6.out G6.out hf7 hk7))
      refine hA _ _ (hk7.mono (fun _ _ h => .inr h)) ?_
      clear A hA
      clear hf7 hk7
      refine run_last ?_
      simp only [pickAt]
      repeat (go_big_quiet_step (fail))
      refine wpQuiet_nil ?_
      go_wp2_with fail
      go_ret2
      have hsr := ServeRel.move (s := s) (n := n) (now := now) x p1 q r p6 HREL.out (by rw [HX3.out]; exact hxe) hq HREL6.out
      exact ⟨true, _, rfl, hsr, P7.out⟩
end
end Go.Proofs.Ytoihhidoafgoaaa
