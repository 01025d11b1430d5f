/- The document's fabric (chapter 15): put, Drop, Double, Take, Send. -/
import Derived.Test.YtoihhidoafgoaaaFaBB
import Derived.Test.YtoihhidoafgoaaaWireCkB
namespace Go.Proofs.Ytoihhidoafgoaaa
open Go.RowKit

def mlostBy (s : Ms) (r : Int) : Ms := if r = 3 then { s with lost := s.lost + 1 } else s
theorem mlostBy_HS (s : Ms) (r : Int) : (mlostBy s r).H = s.H ∧ (mlostBy s r).S = s.S := by unfold mlostBy; split <;> exact ⟨rfl, rfl⟩
structure Ms.ok (N : Nat) (s : Ms) : Prop where
  p : ∀ i, i < nP s.H s.S → (s.P i).ok N
  a : ∀ h, h < s.H → (s.A h).length ≤ N
  lost : 0 ≤ s.lost ∧ s.lost ≤ N
section
variable {m : Nat} {l : Ml} {s : Ms} {w w' : World} {N : Nat}
theorem RM_lost (l : Ml) (s : Ms) (r : Int) : RM l (mlostBy s r) = RM l s := by unfold mlostBy; split <;> rfl
theorem MfPost.step {l1 : Ml} {s1 s2 : Ms} {w1 w2 : World} (K : Kept (MM m l s) w w1) (G : ∀ x, RM l1 s1 x → RM l s x ∨ w.heap.size ≤ x) (hM : ∀ x, MM m l1 s1 x → MM m l s x) (h : MfPost m l1 s1 s2 w1 w2) : MfPost m l s s2 w w2 := by
  obtain ⟨l2, h1, h2, h3⟩ := h
  refine ⟨l2, h1, K.trans2 h2 fun x hx hh => hM x hh, fun x hx => ?_⟩
  rcases h3 x hx with h4 | h4
  · exact G x h4
  · exact .inr (Nat.le_trans K.size h4)
def MPutF (m : Nat) (l : Ml) (s : Ms) (q : Nat) (x : It) (w : World) (e : Ending) (w' : World) : Prop := ∃ r t', e = .returned (.int .i64 r) ∧ MPutRel (s.P q) x r t' ∧ MfPost m l s (mlostBy { s with P := upd s.P q t' } r) w w'
set_option maxRecDepth 100000 in
set_option maxHeartbeats 4000000 in
theorem mf_put (h : Mf m l s w) (ho : s.ok N) (hN : N ≤ 100000) {q : Nat} {x : It} (hq : q < nP s.H s.S) (hx : x.ok2) : Calls Try.prog 52 #[.pointer (some ⟨m, 0, none⟩), .int .i64 q, x.val] w (MPutF m l s q x w) := by
  unfold It.val
  have HF := Lib.hid h
  have HO := Lib.hid ho
  have hl := ho.lost
  have hnp := h.hs.np
  clear h ho
  go_enter Try.func52, Try.ntmps52
  go_upto_region 1 with fail
  have OX := Lib.hid (Ob.new w #[.int .i64 x.kind, .int .i64 x.src, .int .i64 x.dst, .int .i64 x.prio, .int .u64 x.msg, .int .i64 x.off, .int .i64 x.len, .int .i64 x.total, .int .i64 x.num, .slice x.da x.dn x.dc, .int .i64 x.path] TX)
  have KA : Hid (Below w.heap.size w (w.alloc (.cells #[.int .i64 x.kind, .int .i64 x.src, .int .i64 x.dst, .int .i64 x.prio, .int .u64 x.msg, .int .i64 x.off, .int .i64 x.len, .int .i64 x.total, .int .i64 x.num, .slice x.da x.dn x.dc, .int .i64 x.path] TX))) := Lib.hid ((Below.refl _ w).alloc (Nat.le_refl _) _)
  have F1 := Lib.hid (HF.out.below KA.out)
  generalize w.alloc (.cells #[.int .i64 x.kind, .int .i64 x.src, .int .i64 x.dst, .int .i64 x.prio, .int .u64 x.msg, .int .i64 x.off, .int .i64 x.len, .int .i64 x.total, .int .i64 x.num, .slice x.da x.dn x.dc, .int .i64 x.path] TX) = w1 at *
  obtain ⟨X, HX⟩ : ∃ X, Hid (w.heap.size = X) := ⟨_, Lib.hid rfl⟩
  rw [HX.out] at OX ⊢
  obtain ⟨lx, cx, fx⟩ := OX.out.blk
  have cx0 : w1.cell? ⟨X, 0, none⟩ = some (.int .i64 x.kind) := cx 0
  have cx1 : w1.cell? ⟨X, 1, none⟩ = some (.int .i64 x.src) := cx 1
  have cx2 : w1.cell? ⟨X, 2, none⟩ = some (.int .i64 x.dst) := cx 2
  have cx3 : w1.cell? ⟨X, 3, none⟩ = some (.int .i64 x.prio) := cx 3
  have cx4 : w1.cell? ⟨X, 4, none⟩ = some (.int .u64 x.msg) := cx 4
  have cx5 : w1.cell? ⟨X, 5, none⟩ = some (.int .i64 x.off) := cx 5
  have cx6 : w1.cell? ⟨X, 6, none⟩ = some (.int .i64 x.len) := cx 6
  have cx7 : w1.cell? ⟨X, 7, none⟩ = some (.int .i64 x.total) := cx 7
  have cx8 : w1.cell? ⟨X, 8, none⟩ = some (.int .i64 x.num) := cx 8
  have cx9 : w1.cell? ⟨X, 9, none⟩ = some (.slice x.da x.dn x.dc) := cx 9
  have cx10 : w1.cell? ⟨X, 10, none⟩ = some (.int .i64 x.path) := cx 10
  clear cx
  obtain ⟨l0, c0, c1, c2, c3⟩ := F1.out.cells
  obtain ⟨p0, p1, p2, p3⟩ := F1.out.pcell
  have pk := p3 q hq
  have hXq : ¬ Only (l.b q) X := fun hh => absurd (Ty.one (by rw [show X = l.b q from hh] at OX; exact OX.out.ty) (F1.out.po q hq).ob.ty) (by decide)
  have hmq : ¬ Only (l.b q) m := fun hh => absurd (Ty.one (by have := F1.out.ob.ty; rw [show m = l.b q from hh] at this; exact this) (F1.out.po q hq).ob.ty) (by decide)
  have hgq : ¬ Only (l.b q) l.pg := fun hh => absurd (Ty.one (by have := own_ty F1.out.prt rfl; rw [show l.pg = l.b q from hh] at this; exact this) (F1.out.po q hq).ob.ty) (by decide)
  clear p3 c0 c2 c3
  refine wp_run (M := (Only (l.b q))) (stages [([true, true, true, true, true, true, true, true, false, false], 8)] [false, false, false, false, false, false, false, false, false, true]) (by kernel_rfl) (by kernel_rfl) ?_
  refine run_stage rfl ?_
  simp only [pickAt]
  repeat (go_big_quiet_step (fail))
  refine wpQuiet_nil ?_
  refine run_want rfl ?_
  intro A hA
  go_simp
  have hpu := mput_any (l.b q) (l.U q) (l.uc q) (s.P q) N x w1.drew ((F1.out.keptF (Kept.drew _ w1)).po q hq) (HO.out.p q hq) hN hx
  unfold It.val at hpu
  refine hpu.mono ?_
  rintro e w6 ⟨r, t', rfl, hp6, hrel⟩
  obtain ⟨hpost, hk6⟩ := (F1.out.keptF (Kept.drew _ w1)).port hq hp6
  obtain ⟨l6, hf6, hk6', hg6⟩ := hpost
  have F6 := Lib.hid hf6
  have K6 : Hid (Kept (MM m l s) w w6) := Lib.hid ((Kept.of_below KA.out).trans ((Kept.drew _ w1).trans hk6'))
  have G6 : Hid (∀ x, RM l6 { s with P := upd s.P q t' } x → RM l s x ∨ w.heap.size ≤ x) := Lib.hid (fun x hx => (hg6 x hx).imp id fun hh => Nat.le_trans KA.out.size hh)
  have HREL := Lib.hid hrel
  refine hA _ _ (hk6) ?_
  try simp only [Act.put, List.setIfInBounds_toArray, List.set_cons_zero, List.set_cons_succ]
  clear A hA
  clear hpu hp6 hf6 hk6 hk6' hg6 hrel
  refine run_last ?_
  simp only [pickAt]
  repeat (go_big_quiet_step (fail))
  refine wpQuiet_nil ?_
  clear l0 c1 p0 p1 p2 pk lx fx cx0 cx1 cx2 cx3 cx4 cx5 cx6 cx7 cx8 cx9 cx10
  by_cases hr : r = 3
  · subst hr
    obtain ⟨l0, c0, c1, c2, c3⟩ := F6.out.cells
    have f0 := (F6.out.ob.blk).2.2
    have hl2 : 0 ≤ s.lost ∧ s.lost ≤ 100000 := by omega
    have HL := Lib.hid (F6.out.setLost (s.lost + 1))
    clear c0 c1 c2
    go_wp2_with fail
    go_ret
    exact ⟨3, t', rfl, HREL.out, l6, HL.out.1, K6.out.trans2 HL.out.2 fun x _ hh => .inl hh, G6.out⟩
  · have hb : (r == 3) = false := beq_eq_false_iff_ne.2 hr
    have hms : mlostBy { s with P := upd s.P q t' } r = { s with P := upd s.P q t' } := by unfold mlostBy; rw [if_neg hr]
    have HMS := Lib.hid hms
    clear hms
    go_wp2_with fail
    go_ret
    exact ⟨r, t', rfl, HREL.out, l6, by rw [HMS.out]; exact F6.out, K6.out, by rw [HMS.out]; exact G6.out⟩
theorem mf_drop_no (h : Mf m l s w) {n k : Int} (hn : n < 0 ∨ (nP s.H s.S : Int) ≤ n) : Calls Try.prog 25 #[.pointer (some ⟨m, 0, none⟩), .int .i64 n, .int .i64 k] w fun e w' => e = .returned (.int .i64 5) ∧ Below w.heap.size w w' := by
  obtain ⟨l0, c0, c1, c2, c3⟩ := h.cells
  have hh := h.hs.np
  have hk2 : n < 0 ∨ (0 ≤ n ∧ (nP s.H s.S : Int) ≤ n) := by omega
  clear hn
  rcases hk2 with hk | ⟨hk, hk2⟩
  all_goals
    go_enter Try.func25, Try.ntmps25
    go_wp2_with fail
    go_ret
    exact ⟨rfl, Below.refl _ _⟩
inductive MDropF (s : Ms) (n : Nat) (k : Int) : Int → Ms → Prop
  | no (x : It) (p' : Mp) : MDropB (s.P n) k x false p' → MDropF s n k 5 { s with P := upd s.P n p' }
  | yes (x : It) (p' : Mp) : MDropB (s.P n) k x true p' → MDropF s n k 0 { s with P := upd s.P n p', lost := s.lost + 1 }
def MDropFP (m : Nat) (l : Ml) (s : Ms) (n : Nat) (k : Int) (w : World) (e : Ending) (w' : World) : Prop := ∃ r s', e = .returned (.int .i64 r) ∧ MDropF s n k r s' ∧ MfPost m l s s' w w'
set_option maxRecDepth 100000 in
set_option maxHeartbeats 4000000 in
theorem mf_drop (h : Mf m l s w) (ho : s.ok N) (hN : N ≤ 100000) {n : Nat} {k : Int} (hn : n < nP s.H s.S) (hk : k ≤ 9223372036854775807) : Calls Try.prog 25 #[.pointer (some ⟨m, 0, none⟩), .int .i64 n, .int .i64 k] w (MDropFP m l s n k w) := by
  have HF := Lib.hid h
  have HO := Lib.hid ho
  have hl := ho.lost
  have hnp := h.hs.np
  obtain ⟨l0, c0, c1, c2, c3⟩ := h.cells
  obtain ⟨p0, p1, p2, p3⟩ := h.pcell
  have pk := p3 n hn
  clear h ho p3 c0 c2
  go_enter Try.func25, Try.ntmps25
  go_wp2_with fail
  refine (mdropB (l.b n) (l.U n) (l.uc n) (s.P n) N k w (HF.out.po n hn) (HO.out.p n hn) hN hk).mono ?_
  rintro e w1 ⟨x, ok, t', rfl, hp1, hrel⟩
  obtain ⟨hpost, hk1⟩ := HF.out.port hn hp1
  obtain ⟨l1, hf1, hk1', hg1⟩ := hpost
  have F1 := Lib.hid hf1
  have K1 := Lib.hid hk1'
  have G1 := Lib.hid hg1
  have HREL := Lib.hid hrel
  clear hp1 hrel hf1 hk1 hk1' hg1 l0 c1 c3 p0 p1 p2 pk
  unfold boxV
  go_upto_region 4 with fail
  have KA : Hid (Below w1.heap.size w1 (w1.alloc (.cells #[.int .i64 x.kind, .int .i64 x.src, .int .i64 x.dst, .int .i64 x.prio, .int .u64 x.msg, .int .i64 x.off, .int .i64 x.len, .int .i64 x.total, .int .i64 x.num, .slice x.da x.dn x.dc, .int .i64 x.path] TX))) := Lib.hid ((Below.refl _ w1).alloc (Nat.le_refl _) _)
  have F2 := Lib.hid (F1.out.below KA.out)
  have K2 : Hid (Kept (MM m l s) w (w1.alloc (.cells #[.int .i64 x.kind, .int .i64 x.src, .int .i64 x.dst, .int .i64 x.prio, .int .u64 x.msg, .int .i64 x.off, .int .i64 x.len, .int .i64 x.total, .int .i64 x.num, .slice x.da x.dn x.dc, .int .i64 x.path] TX))) := Lib.hid (K1.out.trans (Kept.of_below KA.out))
  generalize w1.alloc (.cells #[.int .i64 x.kind, .int .i64 x.src, .int .i64 x.dst, .int .i64 x.prio, .int .u64 x.msg, .int .i64 x.off, .int .i64 x.len, .int .i64 x.total, .int .i64 x.num, .slice x.da x.dn x.dc, .int .i64 x.path] TX) = w2 at *
  clear KA K1 F1
  cases ok with
  | false =>
    go_wp2_with fail
    go_ret
    exact ⟨5, _, rfl, .no x t' HREL.out, _, F2.out, K2.out, G1.out⟩
  | true =>
    obtain ⟨l0, c0, c1, c2, c3⟩ := F2.out.cells
    have f0 := (F2.out.ob.blk).2.2
    have hl2 : 0 ≤ s.lost ∧ s.lost ≤ 1000000 := by omega
    have HL := Lib.hid (F2.out.setLost (s.lost + 1))
    clear c0 c1 c2
    go_wp2_with fail
    go_ret
    exact ⟨0, _, rfl, .yes x t' HREL.out, _, HL.out.1, K2.out.trans2 HL.out.2 (fun z _ hh => .inl hh), G1.out⟩
theorem mf_double_no (h : Mf m l s w) {n k : Int} (hn : n < 0 ∨ (nP s.H s.S : Int) ≤ n) : Calls Try.prog 27 #[.pointer (some ⟨m, 0, none⟩), .int .i64 n, .int .i64 k] w fun e w' => e = .returned (.int .i64 5) ∧ Below w.heap.size w w' := by
  obtain ⟨l0, c0, c1, c2, c3⟩ := h.cells
  have hh := h.hs.np
  have hk2 : n < 0 ∨ (0 ≤ n ∧ (nP s.H s.S : Int) ≤ n) := by omega
  clear hn
  rcases hk2 with hk | ⟨hk, hk2⟩
  all_goals
    go_enter Try.func27, Try.ntmps27
    go_wp2_with fail
    go_ret
    exact ⟨rfl, Below.refl _ _⟩
inductive MDoubleF (s : Ms) (n : Nat) (k : Int) : Int → Ms → Prop
  | no : (k < 0 ∨ ((s.P n).waits.length : Int) ≤ k) → MDoubleF s n k 5 s
  | yes (j : Nat) (hj : j < (s.P n).waits.length) (r : Int) (p' : Mp) : k = j → MPutRel (s.P n) (s.P n).waits[j] r p' → MDoubleF s n k 0 (mlostBy { s with P := upd s.P n p' } r)
def MDoubleFP (m : Nat) (l : Ml) (s : Ms) (n : Nat) (k : Int) (w : World) (e : Ending) (w' : World) : Prop := ∃ r s', e = .returned (.int .i64 r) ∧ MDoubleF s n k r s' ∧ MfPost m l s s' w w'
theorem MfPost.before {w1 : World} {s' : Ms} (h : MfPost m l s s' w1 w') (hb : Below w.heap.size w w1) : MfPost m l s s' w w' := by
  obtain ⟨l', h1, h2, h3⟩ := h
  exact ⟨l', h1, (Kept.of_below hb).trans h2, fun x hx => (h3 x hx).imp id fun hh => Nat.le_trans hb.size hh⟩
set_option maxRecDepth 100000 in
set_option maxHeartbeats 4000000 in
theorem mf_double (h : Mf m l s w) (ho : s.ok N) (hN : N ≤ 100000) {n : Nat} {k : Int} (hn : n < nP s.H s.S) : Calls Try.prog 27 #[.pointer (some ⟨m, 0, none⟩), .int .i64 n, .int .i64 k] w (MDoubleFP m l s n k w) := by
  have HF := Lib.hid h
  have HO := Lib.hid ho
  have hnp := h.hs.np
  obtain ⟨l0, c0, c1, c2, c3⟩ := h.cells
  obtain ⟨p0, p1, p2, p3⟩ := h.pcell
  have pk := p3 n hn
  clear h ho p3 c0 c2
  have hwl : (s.P n).waits.length ≤ 9 * N := by
    have h1 := HO.out.p n hn
    have h2 := wfrom_len (s.P n).L N h1.len 8 (by decide)
    have h3 := h1.clen
    unfold Mp.waits
    rw [List.length_append]
    omega
  go_enter Try.func27, Try.ntmps27
  go_wp2_with fail
  refine (mwait (l.b n) (l.U n) (l.uc n) (s.P n) N w (HF.out.po n hn) (HO.out.p n hn) hN).mono ?_
  rintro e w1 ⟨v, rfl, how, hb1⟩
  obtain ⟨av, cv, rfl, _, _⟩ := (Rd.of_own how).form
  have F1 := Lib.hid (HF.out.below hb1)
  have B1 := Lib.hid hb1
  have OV := Lib.hid how
  clear how hb1 l0 c1 c3 p0 p1 p2 pk
  by_cases hk : k < 0 ∨ ((s.P n).waits.length : Int) ≤ k
  · have HK := Lib.hid hk
    have hk2 : k < 0 ∨ (0 ≤ k ∧ ((s.P n).waits.length : Int) ≤ k) := by omega
    clear hk
    rcases hk2 with hk | ⟨hk, hk2⟩
    all_goals
      go_wp2_with fail
      go_ret
      exact ⟨5, s, rfl, .no HK.out, MfPost.same HF.out B1.out⟩
  · obtain ⟨j, rfl⟩ : ∃ j : Nat, k = j := ⟨k.toNat, by omega⟩
    have hj : j < (s.P n).waits.length := by omega
    clear hk
    obtain ⟨g, o, hgo, hg, hc⟩ := (Rd.of_own OV.out).row rowIt (by decide) j hj
    cases hgo
    obtain ⟨x, hx⟩ : ∃ x, (s.P n).waits[j] = x := ⟨_, rfl⟩
    have hxo : x.ok2 := (HO.out.p n hn).items _ (mem_mwaits (by rw [← hx]; exact List.getElem_mem hj))
    have HJ := Lib.hid hj
    have HX := Lib.hid hx
    rw [hx] at hc
    have c0 := hc 0 _ rfl
    have c1 := hc 1 _ rfl
    have c2 := hc 2 _ rfl
    have c3 := hc 3 _ rfl
    have c4 := hc 4 _ rfl
    have c5 := hc 5 _ rfl
    have c6 := hc 6 _ rfl
    have c7 := hc 7 _ rfl
    have c8 := hc 8 _ rfl
    have c9 := hc 9 _ rfl
    have c10 := hc 10 _ rfl
    rw [Nat.add_zero] at c0
    clear hc hx
    have hpu := mf_put F1.out HO.out hN hn hxo
    unfold It.val at hpu
    go_wp2_with fail
    refine (hpu).mono ?_
    rintro e w2 ⟨r, t', rfl, hrel, hp⟩
    have HREL := Lib.hid hrel
    have HP := Lib.hid hp
    clear hrel hp hpu c0 c1 c2 c3 c4 c5 c6 c7 c8 c9 c10
    go_wp2_with fail
    go_ret
    exact ⟨0, _, rfl, .yes j HJ.out r t' rfl (by rw [HX.out]; exact HREL.out), HP.out.before B1.out⟩
/-- the rest of a row -/
theorem Rf.tail {v : Option Addr} {c : Nat} {x : It} {r : List It} (h : Rf w (.slice v (r.length + 1) c) (x :: r)) : Rf w (.slice (slAddr v c 1 10) r.length (c - 1)) r := by
  have h1 := Rd.sub (l := 1) (m := r.length + 1) h.rd (by omega) (Nat.le_refl _)
  rw [Nat.add_sub_cancel] at h1
  have e : (((x :: r).flatMap It.fro).drop (1 * 10)).take (r.length * 10) = r.flatMap It.fro := by
    rw [List.flatMap_cons, Nat.one_mul, List.drop_append, List.drop_of_length_le (by rw [rowFr]; exact Nat.le_refl _), rowFr, Nat.sub_self, List.drop_zero, List.nil_append]
    exact List.take_of_length_le (by rw [flat_len rowFr]; exact Nat.le_refl _)
  rw [e] at h1
  refine ⟨h1, fun a n' c' hv => ?_⟩
  injection hv with h2 _ _
  obtain ⟨a0, h3, h4⟩ := slAddr_blk h2
  subst h3
  rw [← h4]
  exact h.ty a0 _ _ rfl
end
end Go.Proofs.Ytoihhidoafgoaaa
