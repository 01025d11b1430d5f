/- The document's fabric (chapter 15): Serve. -/
import Derived.Test.YtoihhidoafgoaaaFaBC
namespace Go.Proofs.Ytoihhidoafgoaaa
open Go.RowKit

inductive MServeRel (s : Ms) (n : Nat) (now : Int) : Bool → Ms → Prop
  | none (x : It) (p' : Mp) : MTakeRel (s.P n) (max (s.P n).now (min now 1125899906842624)) x false p' → MServeRel s n now false { s with P := upd s.P n p' }
  | arr (x : It) (p' : Mp) : MTakeRel (s.P n) (max (s.P n).now (min now 1125899906842624)) x true p' → s.H ≤ n → n < 2 * s.H → MServeRel s n now true { s with P := upd s.P n p', A := upd s.A (n - s.H) (s.A (n - s.H) ++ [x]) }
  | move (x : It) (p' : Mp) (q : Nat) (r : Int) (p'' : Mp) : MTakeRel (s.P n) (max (s.P n).now (min now 1125899906842624)) x true p' → nxt s.H s.S n x.dst.toNat x.path = ((q : Int), false) → q < nP s.H s.S → MPutRel (upd s.P n p' q) x r p'' → MServeRel s n now true (mlostBy { s with P := upd (upd s.P n p') q p'' } r)
theorem MTakeRel.mem {t t' : Mp} {T : Int} {x : It} (h : MTakeRel t T x true t') : t.has x := by
  cases h with
  | cred _ r h1 _ => exact .inl (by rw [h1]; exact List.mem_cons_self)
  | line i _ r _ hi h1 _ => exact .inr ⟨i, hi, by rw [h1]; exact List.mem_cons_self⟩
section
variable {m : Nat} {l : Ml} {s : Ms} {w w' : World} {N : Nat}
theorem Mf.keptS (h : Mf m l s w) (hk : Kept (Since w.heap.size) w w') : Mf m l s w' := h.keptF (hk.mono fun _ hb hh => absurd hb (Nat.not_lt.2 hh))
theorem Mf.portL (h : Mf m l s w) {i : Nat} (hi : i < nP s.H s.S) {t' : Mp} (hp : MoPost (l.b i) t' w w') : (∃ l', Mf m l' { s with P := upd s.P i t' } w' ∧ Kept (MM m l s) w w' ∧ (∀ x, RM l' { s with P := upd s.P i t' } x → RM l s x) ∧ l'.b = l.b ∧ l'.ib = l.ib) ∧ Kept (Only (l.b i)) w w' := by
  obtain ⟨U', uc', h1, h2⟩ := hp
  have hT : ∀ {x : Nat} {T : TypeId}, Ty w x T → T ≠ TM → ¬ Only (l.b i) x := fun hx hn hh => by
    rw [show _ = l.b i from hh] at hx
    exact hn (hx.one (h.po i hi).ob.ty)
  refine ⟨⟨{ l with U := upd l.U i U', uc := upd l.uc i uc' }, ⟨h.ob.kept h2 (hT h.ob.ty (by decide)), Ob.kept h.net h2 (hT (Ob.ty h.net) (by decide)), h.hs, own_kept h.prt h2 fun x hx => hT (own_ty h.prt hx) (by decide), h.inb.kept h2 (hT h.inb.ty (by decide)), fun k hk => (h.rows k hk).kept h2 fun a n c hv => hT ((h.rows k hk).ty a n c hv) (by decide), fun j hj => ?_, h.apart⟩, h2.mono fun x _ hx => .inr (.inr ⟨i, hi, hx⟩), fun x hx => hx, rfl, rfl⟩, h2⟩
  by_cases e : j = i
  · subst e
    show Mo (l.b j) (upd l.U j U' j) (upd l.uc j uc' j) (upd s.P j t' j) w'
    rw [upd_same, upd_same, upd_same]
    exact h1
  · show Mo (l.b j) (upd l.U i U' j) (upd l.uc i uc' j) (upd s.P i t' j) w'
    rw [upd_other _ _ e, upd_other _ _ e, upd_other _ _ e]
    exact (h.po j hj).kept h2 (fun hh => e (h.apart j i hj hi hh)) fun g hg _ => ⟨TM, by rw [show g = l.b i from hg]; exact (h.po i hi).ob.ty, by decide⟩
theorem MfPost.stepL {l1 : Ml} {s1 s2 : Ms} {w1 w2 : World} (K : Kept (MM m l s) w w1) (G : ∀ x, RM l1 s1 x → RM l s x ∨ w.heap.size ≤ x) (hM : ∀ x, MM m l1 s1 x → MM m l s x ∨ w.heap.size ≤ x) (h : MfPost m l1 s1 s2 w1 w2) : MfPost m l s s2 w w2 := by
  obtain ⟨l2, h1, h2, h3⟩ := h
  refine ⟨l2, h1, K.trans2 h2 fun x hx hh => (hM x hh).elim id fun h => absurd hx (Nat.not_lt.2 h), fun x hx => ?_⟩
  rcases h3 x hx with h4 | h4
  · exact G x h4
  · exact .inr (Nat.le_trans K.size h4)
theorem mf_serve_no (h : Mf m l s w) {k now : Int} (hk : k < 0 ∨ (nP s.H s.S : Int) ≤ k) : Calls Try.prog 22 #[.pointer (some ⟨m, 0, none⟩), .int .i64 k, .int .i64 now] w fun e w' => e = .returned (.tuple #[.bool false, .int .i64 5]) ∧ w = w' := by
  obtain ⟨l0, c0, c1, c2, c3⟩ := h.cells
  have hh := h.hs.np
  have hk2 : k < 0 ∨ (0 ≤ k ∧ (nP s.H s.S : Int) ≤ k) := by omega
  clear hk
  rcases hk2 with hk | ⟨hk, hk2⟩
  all_goals
    go_enter Try.func22, Try.ntmps22
    go_wp2_with fail
    go_ret2
    exact ⟨rfl, rfl⟩
def MServeP (m : Nat) (l : Ml) (s : Ms) (n : Nat) (now : Int) (w : World) (e : Ending) (w' : World) : Prop := ∃ b s', e = .returned (.tuple #[.bool b, .int .i64 0]) ∧ MServeRel s n now b s' ∧ MfPost m l s s' w w'
set_option maxRecDepth 100000 in
set_option maxHeartbeats 4000000 in
theorem mf_serve (h : Mf m l s w) (ho : s.ok N) (hN : N ≤ 100000) {n : Nat} {now : Int} (hn : n < nP s.H s.S) (ht : 0 ≤ (s.P n).now ∧ (s.P n).now ≤ 1125899906842624) (hla : 0 ≤ (s.P n).last ∧ (s.P n).last ≤ 1125899906842624) (hg : ∀ x, (s.P n).has x → 0 ≤ x.dst ∧ x.dst < s.H ∧ nxt s.H s.S n x.dst.toNat x.path ≠ (-1, false)) : Calls Try.prog 22 #[.pointer (some ⟨m, 0, none⟩), .int .i64 n, .int .i64 now] w (MServeP m l s n now w) := by
  have HF := Lib.hid h
  have HO := Lib.hid ho
  have HG := Lib.hid hg
  have hh := h.hs.h
  have hnp := h.hs.np
  obtain ⟨l0, c0, c1, c2, c3⟩ := h.cells
  obtain ⟨p0, p1, p2, p3⟩ := h.pcell
  have pk := p3 n hn
  clear h ho hg p3 c0 c2
  go_enter Try.func22, Try.ntmps22
  go_wp2_with fail
  refine (mtake_any (l.b n) (l.U n) (l.uc n) (s.P n) N now w (HF.out.po n hn) (HO.out.p n hn) ht hla).mono ?_
  rintro e w1 ⟨x, ok, pp, rfl, hp1, hrel⟩
  obtain ⟨⟨l1, hf1, hk1', hg1, hlb, hli⟩, hk1⟩ := HF.out.portL hn hp1
  have F1 := Lib.hid hf1
  have K1 := Lib.hid hk1'
  have G1 : Hid (∀ x, RM l1 { s with P := upd s.P n pp } x → RM l s x ∨ w.heap.size ≤ x) := Lib.hid (fun x hx => .inl (hg1 x hx))
  have HREL := Lib.hid hrel
  have HMM : Hid (∀ x, MM m l1 { s with P := upd s.P n pp } x → MM m l s x ∨ w.heap.size ≤ x) := Lib.hid (fun x hx => by
    rcases hx with hx | hx | ⟨i, hi, hx⟩
    · exact .inl (.inl hx)
    · exact .inl (.inr (.inl (by rw [← hli]; exact hx)))
    · exact .inl (.inr (.inr ⟨i, hi, by rw [← hlb]; exact hx⟩)))
  clear hp1 hrel hf1 hk1 hk1' hg1 hlb hli l0 c1 c3 p0 p1 p2 pk
  unfold boxV
  go_upto_region 4 with fail
  have OX := Lib.hid (Ob.new w1 #[.int .i64 x.kind, .int .i64 x.src, .int .i64 x.dst, .int .i64 x.prio, .int .u64 x.msg, .int .i64 x.off, .int .i64 x.len, .int .i64 x.total, .int .i64 x.num, .slice x.da x.dn x.dc, .int .i64 x.path] TX)
  have KA : Hid (Below w1.heap.size w1 (w1.alloc (.cells #[.int .i64 x.kind, .int .i64 x.src, .int .i64 x.dst, .int .i64 x.prio, .int .u64 x.msg, .int .i64 x.off, .int .i64 x.len, .int .i64 x.total, .int .i64 x.num, .slice x.da x.dn x.dc, .int .i64 x.path] TX))) := Lib.hid ((Below.refl _ w1).alloc (Nat.le_refl _) _)
  have F2 := Lib.hid (F1.out.below KA.out)
  have K2 : Hid (Kept (MM m l s) w (w1.alloc (.cells #[.int .i64 x.kind, .int .i64 x.src, .int .i64 x.dst, .int .i64 x.prio, .int .u64 x.msg, .int .i64 x.off, .int .i64 x.len, .int .i64 x.total, .int .i64 x.num, .slice x.da x.dn x.dc, .int .i64 x.path] TX))) := Lib.hid (K1.out.trans (Kept.of_below KA.out))
  generalize hw2 : w1.alloc (.cells #[.int .i64 x.kind, .int .i64 x.src, .int .i64 x.dst, .int .i64 x.prio, .int .u64 x.msg, .int .i64 x.off, .int .i64 x.len, .int .i64 x.total, .int .i64 x.num, .slice x.da x.dn x.dc, .int .i64 x.path] TX) = w2 at *
  obtain ⟨X, HX⟩ : ∃ X, Hid (w1.heap.size = X) := ⟨_, Lib.hid rfl⟩
  rw [HX.out] at OX ⊢
  clear hw2 KA K1 F1
  cases ok with
  | false =>
    go_wp2_with fail
    go_ret2
    exact ⟨false, _, rfl, .none x pp HREL.out, _, F2.out, K2.out, G1.out⟩
  | true =>
    obtain ⟨hd0, hdH', hng⟩ := HG.out x HREL.out.mem
    have hxo := (HO.out.p n hn).items x HREL.out.mem
    obtain ⟨d, hd⟩ : ∃ d : Nat, (d : Int) = x.dst := ⟨x.dst.toNat, by omega⟩
    have hdt : x.dst.toNat = d := by omega
    have hdH : d < s.H := by omega
    rw [hdt] at hng
    have hnx := fun k => mnet_next (path := x.path) (Ob.dn (n := k) F2.out.net) F2.out.hs hdH hn hng
    rw [hd] at hnx
    have hni := nxt_is (path := x.path) F2.out.hs hdH hn
    have HX3 := Lib.hid hdt
    clear hd hdt hd0 hdH' hdH
    obtain ⟨lx, cx, fx⟩ := OX.out.blk
    have cx0 : w2.cell? ⟨X, 0, none⟩ = some (.int .i64 x.kind) := cx 0
    have cx1 : w2.cell? ⟨X, 1, none⟩ = some (.int .i64 x.src) := cx 1
    have cx2 : w2.cell? ⟨X, 2, none⟩ = some (.int .i64 x.dst) := cx 2
    have cx3 : w2.cell? ⟨X, 3, none⟩ = some (.int .i64 x.prio) := cx 3
    have cx4 : w2.cell? ⟨X, 4, none⟩ = some (.int .u64 x.msg) := cx 4
    have cx5 : w2.cell? ⟨X, 5, none⟩ = some (.int .i64 x.off) := cx 5
    have cx6 : w2.cell? ⟨X, 6, none⟩ = some (.int .i64 x.len) := cx 6
    have cx7 : w2.cell? ⟨X, 7, none⟩ = some (.int .i64 x.total) := cx 7
    have cx8 : w2.cell? ⟨X, 8, none⟩ = some (.int .i64 x.num) := cx 8
    have cx9 : w2.cell? ⟨X, 9, none⟩ = some (.slice x.da x.dn x.dc) := cx 9
    have cx10 : w2.cell? ⟨X, 10, none⟩ = some (.int .i64 x.path) := cx 10
    clear cx
    obtain ⟨l0, c0, c1, c2, c3⟩ := F2.out.cells
    rcases hni with ⟨hxe, hnH, hn2⟩ | hxe | ⟨q, hq, hxe⟩
    · rw [show nxt s.H s.S n d x.path = (-1, true) from hxe] at hnx
      clear hng
      go_wp2_with fail
      refine wp_region_quiet_lit (by kernel_rfl) (by kernel_rfl) ?_
      try simp only [List.append]
      repeat (first | go_big_quiet_step (first | (go_at_call 54; exact quietD (hnx _)) | (go_at_call 54; exact quietE (hnx _))) | quiet_step (first | (go_at_call 54; exact quietD (hnx _)) | (go_at_call 54; exact quietE (hnx _))))
      refine wpQuiet_nil ?_
      intro W hW
      have F3 : Hid (Mf m l1 { s with P := upd s.P n pp } W) := by obtain ⟨m, rfl⟩ := hW; exact Lib.hid (F2.out.dn m)
      have OX3 : Hid (Ob W X #[.int .i64 x.kind, .int .i64 x.src, .int .i64 x.dst, .int .i64 x.prio, .int .u64 x.msg, .int .i64 x.off, .int .i64 x.len, .int .i64 x.total, .int .i64 x.num, .slice x.da x.dn x.dc, .int .i64 x.path] TX) := by obtain ⟨m, rfl⟩ := hW; exact Lib.hid OX.out.dn
      have K3 : Hid (Kept (MM m l s) w W) := by obtain ⟨m, rfl⟩ := hW; exact Lib.hid (K2.out.dnR m)
      clear hW hnx F2 OX K2 lx fx cx0 cx1 cx2 cx3 cx4 cx5 cx6 cx7 cx8 cx9 cx10 l0 c0 c1 c2 c3
      obtain ⟨lx, cx, fx⟩ := OX3.out.blk
      have cx0 : W.cell? ⟨X, 0, none⟩ = some (.int .i64 x.kind) := cx 0
      have cx1 : W.cell? ⟨X, 1, none⟩ = some (.int .i64 x.src) := cx 1
      have cx2 : W.cell? ⟨X, 2, none⟩ = some (.int .i64 x.dst) := cx 2
      have cx3 : W.cell? ⟨X, 3, none⟩ = some (.int .i64 x.prio) := cx 3
      have cx4 : W.cell? ⟨X, 4, none⟩ = some (.int .u64 x.msg) := cx 4
      have cx5 : W.cell? ⟨X, 5, none⟩ = some (.int .i64 x.off) := cx 5
      have cx6 : W.cell? ⟨X, 6, none⟩ = some (.int .i64 x.len) := cx 6
      have cx7 : W.cell? ⟨X, 7, none⟩ = some (.int .i64 x.total) := cx 7
      have cx8 : W.cell? ⟨X, 8, none⟩ = some (.int .i64 x.num) := cx 8
      have cx9 : W.cell? ⟨X, 9, none⟩ = some (.slice x.da x.dn x.dc) := cx 9
      have cx10 : W.cell? ⟨X, 10, none⟩ = some (.int .i64 x.path) := cx 10
      clear cx
      obtain ⟨l0, c0, c1, c2, c3⟩ := F3.out.cells
      obtain ⟨n0, n1, n2, n3⟩ := F3.out.net.cells
      obtain ⟨k, hk⟩ : ∃ k, n - s.H = k := ⟨_, rfl⟩
      have hkH : k < s.H := by omega
      have HKK := Lib.hid hk
      have hki : Hid ((n : Int) - (s.H : Int) = (k : Int)) := Lib.hid (by omega)
      clear hk
      go_upto_region 9 with fail
      rw [hki.out]
      obtain ⟨w4, hw4⟩ : ∃ w4, Hid (W = w4) := ⟨_, Lib.hid rfl⟩
      rw [hw4.out] at F3 OX3 K3 lx cx0 cx1 cx2 cx3 cx4 cx5 cx6 cx7 cx8 cx9 cx10 l0 c0 c1 c2 c3 ⊢
      have F4 := F3
      obtain ⟨la, ca, fa⟩ := F4.out.acell
      obtain ⟨a, c, hv, hv1, hv2⟩ := (F4.out.rows k hkH).form
      have cak := (ca k hkH).trans (congrArg some hv)
      have HV := Lib.hid hv
      have hll := HO.out.a k hkH
      have HFIN : Hid (∀ (a12 : Option Addr) (c12 : Nat) (w12 : World), Kept (Since w4.heap.size) w4 w12 → w12.ownsRow w4.heap.size TFr 10 (.slice a12 ((s.A k).length + 1) c12) (s.A k ++ [x]).length ((s.A k ++ [x]).flatMap It.fro) → MServeP m l s n now w (.returned (.tuple #[.bool true, .int .i64 0])) (w12.setCell ⟨l1.ib, k, none⟩ (.slice a12 ((s.A k).length + 1) c12))) := Lib.hid (fun a12 c12 w12 hK hO => by
        have hf := F4.out.keptS hK
        have hrf : Rf w12 (.slice a12 ((s.A k).length + 1) c12) (s.A k ++ [x]) := ⟨Rd.of_own hO, fun a n c hv => own_tyA hO hv⟩
        have hib := F4.out.inb.lt
        have hr := hf.row hkH hrf (fun a n c hv e => by have := own_ge hO hv; rw [e] at this; exact absurd hib (Nat.not_lt.2 this))
        have hsr := MServeRel.arr (s := s) (n := n) (now := now) x pp HREL.out hnH hn2
        rw [HKK.out] at hsr
        refine ⟨true, _, rfl, hsr, ⟨_, hr.1, ?_, fun y hy => ?_⟩⟩
        · exact (K3.out.trans2 hK fun b hb hh => absurd (Nat.lt_of_lt_of_le hb K3.out.size) (Nat.not_lt.2 hh)).trans2 hr.2 fun b hb hh => by
            rcases HMM.out b (.inr (.inl hh)) with h | h
            · exact h
            · exact absurd hb (Nat.not_lt.2 h)
        · rcases hy with hy | hy | ⟨j, hj, a, n', c, hv, hy⟩
          · exact G1.out y (.inl hy)
          · exact G1.out y (.inr (.inl hy))
          · by_cases e : j = k
            · subst e
              have hv : upd l1.V j (.slice a12 ((s.A j).length + 1) c12) j = .slice (some a) n' c := hv
              rw [upd_same] at hv
              have := own_ge hO hv
              rw [hy] at this
              exact .inr (Nat.le_trans K3.out.size this)
            · have hv : upd l1.V k (.slice a12 ((s.A k).length + 1) c12) j = .slice (some a) n' c := hv
              rw [upd_other _ _ e] at hv
              exact G1.out y (.inr (.inr ⟨j, hj, a, n', c, hv, hy⟩)))
      clear hv ca c0 c1 c3 n1 n2 n3
      have nm : ¬ Since w4.heap.size l1.ib := not_since la
      have nm2 : ¬ Since w4.heap.size m := not_since l0
      have nX : ¬ Since w4.heap.size X := not_since lx
      refine wp_heads (M := (Since w4.heap.size)) 19 (by kernel_rfl) (by kernel_rfl) ?_
      refine hd_quiet [true, true, true, true, true, false, true, true, true, true, true, true, true, false, true, true, false, false, false, false] (by kernel_rfl) ?_
      simp only [pickAt]
      repeat (go_big_quiet_step (fail))
      refine wpQuiet_nil ?_
      have hrdK : ∀ W, Kept (Since w4.heap.size) w4 W → Rd W 10 (.slice a (s.A k).length c) (s.A k).length ((s.A k).flatMap It.fro) := fun W hK => by
        rw [← HV.out]
        exact (F4.out.rows k hkH).rd.kept hK fun a n c hv hh => by
          obtain ⟨cs, h2⟩ := (F4.out.rows k hkH).ty a n c hv
          exact absurd hh (Nat.not_le.2 (heap_lt h2))
      refine hd_act2 5 16 rfl rfl (by kernel_rfl) ?_ ?_
      · refine run_want rfl ?_
        intro A hA
        go_simp
        have E2 := Lib.hid (World.ownsRow_made (base := w4.heap.size) (e := TFr) (size := 10) w4.drew #[] 0 (by first | omega | (simp; done) | exact Nat.le_refl _) (by decide) rfl)
        have K2' : Hid (Kept (Since w4.heap.size) w4 (w4.drew.alloc (.cells #[] TFr))) := Lib.hid (((Kept.refl _ _).drewR).alloc _)
        refine hA _ _ ((Kept.refl _ _).alloc _) ?_
        try simp only [Act.put, List.setIfInBounds_toArray, List.set_cons_zero, List.set_cons_succ]
        clear A hA
        refine hd_act2 13 16 rfl rfl (by kernel_rfl) ?_ ?_
        · refine run_want rfl ?_
          intro A hA
          have hrd := hrdK _ K2'.out
          refine wp_appAt (.tmp 67) (.tmp 74) 63 (by rfl) info_fr Try.underlying63 rfl (by decide) E2.out hrd (by rfl) (by rfl) (one_frrows _) (by omega) K2'.out.size ?_
          intro v9 w9 ho9 hg9 hb9
          rw [List.nil_append, Nat.zero_add] at ho9
          obtain ⟨a9, c9, rfl, _, _⟩ := (Rd.of_own ho9).form
          have G9 := Kept.of_grown (M := Since w4.heap.size) hg9 fun y hy => (E2.out.lt y hy).1
          have K9 := Lib.hid (K2'.out.trans G9)
          have O9 := Lib.hid ho9
          refine hA _ _ (G9) ?_
          try simp only [Act.put, List.setIfInBounds_toArray, List.set_cons_zero, List.set_cons_succ]
          clear A hA
          clear ho9 hg9 hb9 G9 hrd
          refine hd_act 16 rfl (by kernel_rfl) ?_
          refine run_want rfl ?_
          intro A hA
          go_simp
          have R11 := Lib.hid (Rd.one (k := 10) w9 #[.int .i64 x.kind, .int .i64 x.src, .int .i64 x.dst, .int .i64 x.prio, .int .u64 x.msg, .int .i64 x.off, .int .i64 x.len, .int .i64 x.total, .int .i64 x.num, .slice x.da x.dn x.dc] TFr rfl)
          have K11 := Lib.hid (K9.out.alloc (.cells #[.int .i64 x.kind, .int .i64 x.src, .int .i64 x.dst, .int .i64 x.prio, .int .u64 x.msg, .int .i64 x.off, .int .i64 x.len, .int .i64 x.total, .int .i64 x.num, .slice x.da x.dn x.dc] TFr))
          have O11 := Lib.hid (own_kept O9.out ((Kept.refl (fun _ => False) w9).alloc (.cells #[.int .i64 x.kind, .int .i64 x.src, .int .i64 x.dst, .int .i64 x.prio, .int .u64 x.msg, .int .i64 x.off, .int .i64 x.len, .int .i64 x.total, .int .i64 x.num, .slice x.da x.dn x.dc] TFr)) (fun _ _ h => h))
          refine hA _ _ ((Kept.refl _ _).alloc _) ?_
          try simp only [Act.put, List.setIfInBounds_toArray, List.set_cons_zero, List.set_cons_succ]
          clear A hA
          refine hd_act 17 rfl (by kernel_rfl) ?_
          refine run_want rfl ?_
          intro A hA
          refine wp_appAt (.tmp 75) (.tmp 78) 63 (by rfl) info_fr Try.underlying63 rfl (by decide) O11.out R11.out (by rfl) (by rfl) (by simp [Value.oneCell']) (by omega) K11.out.size ?_
          intro v12 w12 ho12 hg12 hb12
          obtain ⟨a12, c12, rfl, _, _⟩ := (Rd.of_own ho12).form
          have G12 := Kept.of_grown (M := Since w4.heap.size) hg12 fun y hy => (O11.out.lt y hy).1
          have K12 := Lib.hid (K11.out.trans G12)
          have O12 : Hid (w12.ownsRow w4.heap.size TFr 10 (.slice a12 ((s.A k).length + 1) c12) (s.A k ++ [x]).length ((s.A k ++ [x]).flatMap It.fro)) := Lib.hid (by simpa [It.fro] using ho12)
          have hlb : l1.ib < w12.heap.size := Nat.lt_of_lt_of_le la K12.out.size
          have hfb : ∀ i, w12.frozen? ⟨l1.ib, i, none⟩ = false := fun i => (K12.out.frozen l1.ib i la nm).trans (fa i)
          have hcb : w12.cell? ⟨l1.ib, k, none⟩ = some (.slice a (s.A k).length c) := (K12.out.cell l1.ib k la nm).trans cak
          refine hA _ _ (G12) ?_
          try simp only [Act.put, List.setIfInBounds_toArray, List.set_cons_zero, List.set_cons_succ]
          clear A hA
          clear ho12 hg12 hb12 G12
          refine hd_quiet [false, false, false, false, false, false, false, false, false, false, false, false, false, false, false, false, false, false, true, false] (by kernel_rfl) ?_
          simp only [pickAt]
          repeat (go_big_quiet_step (fail))
          refine wpQuiet_nil ?_
          refine hd_tail rfl (by kernel_rfl) ?_
          simp only [List.drop_succ_cons, List.drop_zero]
          go_wp2
          refine NoPanic.normal ?_
          go_wp2
          go_ret2
          exact HFIN.out _ _ _ K12.out O12.out
        · refine run_want rfl ?_
          intro A hA
          go_simp
          have R11 : Hid (Rd ((w4.drew.alloc (.cells #[] TFr)).alloc (.cells #[.int .i64 x.kind, .int .i64 x.src, .int .i64 x.dst, .int .i64 x.prio, .int .u64 x.msg, .int .i64 x.off, .int .i64 x.len, .int .i64 x.total, .int .i64 x.num, .slice x.da x.dn x.dc] TFr)) 10 (.slice (some ⟨w4.heap.size + 1, 0, none⟩) 1 1) 1 [.int .i64 x.kind, .int .i64 x.src, .int .i64 x.dst, .int .i64 x.prio, .int .u64 x.msg, .int .i64 x.off, .int .i64 x.len, .int .i64 x.total, .int .i64 x.num, .slice x.da x.dn x.dc]) := Lib.hid (by
            have h0 := Rd.one (k := 10) (w4.drew.alloc (.cells #[] TFr)) #[.int .i64 x.kind, .int .i64 x.src, .int .i64 x.dst, .int .i64 x.prio, .int .u64 x.msg, .int .i64 x.off, .int .i64 x.len, .int .i64 x.total, .int .i64 x.num, .slice x.da x.dn x.dc] TFr rfl
            rw [World.size_alloc] at h0
            exact h0)
          have K11 := Lib.hid (K2'.out.alloc (.cells #[.int .i64 x.kind, .int .i64 x.src, .int .i64 x.dst, .int .i64 x.prio, .int .u64 x.msg, .int .i64 x.off, .int .i64 x.len, .int .i64 x.total, .int .i64 x.num, .slice x.da x.dn x.dc] TFr))
          have E11 := Lib.hid (own_kept E2.out ((Kept.refl (fun _ => False) _).alloc (.cells #[.int .i64 x.kind, .int .i64 x.src, .int .i64 x.dst, .int .i64 x.prio, .int .u64 x.msg, .int .i64 x.off, .int .i64 x.len, .int .i64 x.total, .int .i64 x.num, .slice x.da x.dn x.dc] TFr)) (fun _ _ h => h))
          refine hA _ _ ((Kept.refl _ _).alloc _) ?_
          try simp only [Act.put, List.setIfInBounds_toArray, List.set_cons_zero, List.set_cons_succ]
          clear A hA
          refine hd_act 13 rfl (by kernel_rfl) ?_
          refine run_want rfl ?_
          intro A hA
          have hrd := hrdK _ K11.out
          refine wp_appAt (.tmp 67) (.tmp 74) 63 (by rfl) info_fr Try.underlying63 rfl (by decide) E11.out hrd (by rfl) (by rfl) (one_frrows _) (by omega) K11.out.size ?_
          intro v9 w9 ho9 hg9 hb9
          rw [List.nil_append, Nat.zero_add] at ho9
          obtain ⟨a9, c9, rfl, _, _⟩ := (Rd.of_own ho9).form
          have G9 := Kept.of_grown (M := Since w4.heap.size) hg9 fun y hy => (E11.out.lt y hy).1
          have K9 := Lib.hid (K11.out.trans G9)
          have O9 := Lib.hid ho9
          have R9 := Lib.hid (R11.out.kept (M := Lm (.slice (some ⟨w4.drew.heap.size, 0, none⟩) 0 0)) (Kept.of_grown hg9 fun y hy => hy) (fun a n c hv hh => by
            cases hv
            have h1 : w4.heap.size = w4.heap.size + 1 := Option.some.inj hh
            omega))
          refine hA _ _ (G9) ?_
          try simp only [Act.put, List.setIfInBounds_toArray, List.set_cons_zero, List.set_cons_succ]
          clear A hA
          clear ho9 hg9 hb9 G9 hrd
          refine hd_act 17 rfl (by kernel_rfl) ?_
          refine run_want rfl ?_
          intro A hA
          refine wp_appAt (.tmp 75) (.tmp 78) 63 (by rfl) info_fr Try.underlying63 rfl (by decide) O9.out R9.out (by rfl) (by rfl) (by simp [Value.oneCell']) (by omega) K9.out.size ?_
          intro v12 w12 ho12 hg12 hb12
          obtain ⟨a12, c12, rfl, _, _⟩ := (Rd.of_own ho12).form
          have G12 := Kept.of_grown (M := Since w4.heap.size) hg12 fun y hy => (O9.out.lt y hy).1
          have K12 := Lib.hid (K9.out.trans G12)
          have O12 : Hid (w12.ownsRow w4.heap.size TFr 10 (.slice a12 ((s.A k).length + 1) c12) (s.A k ++ [x]).length ((s.A k ++ [x]).flatMap It.fro)) := Lib.hid (by simpa [It.fro] using ho12)
          have hlb : l1.ib < w12.heap.size := Nat.lt_of_lt_of_le la K12.out.size
          have hfb : ∀ i, w12.frozen? ⟨l1.ib, i, none⟩ = false := fun i => (K12.out.frozen l1.ib i la nm).trans (fa i)
          have hcb : w12.cell? ⟨l1.ib, k, none⟩ = some (.slice a (s.A k).length c) := (K12.out.cell l1.ib k la nm).trans cak
          refine hA _ _ (G12) ?_
          try simp only [Act.put, List.setIfInBounds_toArray, List.set_cons_zero, List.set_cons_succ]
          clear A hA
          clear ho12 hg12 hb12 G12
          refine hd_quiet [false, false, false, false, false, false, false, false, false, false, false, false, false, false, false, false, false, false, true, false] (by kernel_rfl) ?_
          simp only [pickAt]
          repeat (go_big_quiet_step (fail))
          refine wpQuiet_nil ?_
          refine hd_tail rfl (by kernel_rfl) ?_
          simp only [List.drop_succ_cons, List.drop_zero]
          go_wp2
          refine NoPanic.normal ?_
          go_wp2
          go_ret2
          exact HFIN.out _ _ _ K12.out O12.out
      · refine run_want rfl ?_
        intro A hA
        go_simp
        have R11 := Lib.hid (Rd.one (k := 10) w4.drew #[.int .i64 x.kind, .int .i64 x.src, .int .i64 x.dst, .int .i64 x.prio, .int .u64 x.msg, .int .i64 x.off, .int .i64 x.len, .int .i64 x.total, .int .i64 x.num, .slice x.da x.dn x.dc] TFr rfl)
        have K11 : Hid (Kept (Since w4.heap.size) w4 (w4.drew.alloc (.cells #[.int .i64 x.kind, .int .i64 x.src, .int .i64 x.dst, .int .i64 x.prio, .int .u64 x.msg, .int .i64 x.off, .int .i64 x.len, .int .i64 x.total, .int .i64 x.num, .slice x.da x.dn x.dc] TFr))) := Lib.hid (((Kept.refl _ _).drewR).alloc _)
        refine hA _ _ ((Kept.refl _ _).alloc _) ?_
        try simp only [Act.put, List.setIfInBounds_toArray, List.set_cons_zero, List.set_cons_succ]
        clear A hA
        refine hd_act 5 rfl (by kernel_rfl) ?_
        refine run_want rfl ?_
        intro A hA
        go_simp
        have E2 : Hid (((w4.drew.alloc (.cells #[.int .i64 x.kind, .int .i64 x.src, .int .i64 x.dst, .int .i64 x.prio, .int .u64 x.msg, .int .i64 x.off, .int .i64 x.len, .int .i64 x.total, .int .i64 x.num, .slice x.da x.dn x.dc] TFr)).alloc (.cells #[] TFr)).ownsRow w4.heap.size TFr 10 (.slice (some ⟨w4.heap.size + 1, 0, none⟩) 0 0) 0 []) := Lib.hid (by
          have h0 := World.ownsRow_made (base := w4.heap.size) (e := TFr) (size := 10) (w4.drew.alloc (.cells #[.int .i64 x.kind, .int .i64 x.src, .int .i64 x.dst, .int .i64 x.prio, .int .u64 x.msg, .int .i64 x.off, .int .i64 x.len, .int .i64 x.total, .int .i64 x.num, .slice x.da x.dn x.dc] TFr)) #[] 0 (by rw [World.size_alloc]; exact Nat.le_succ _) (by decide) rfl
          rw [World.size_alloc] at h0
          exact h0)
        have R2 := Lib.hid (R11.out.kept ((Kept.refl (fun _ => False) _).alloc (.cells #[] TFr)) (fun _ _ _ _ h => h))
        have K2' := Lib.hid (K11.out.alloc (.cells #[] TFr))
        refine hA _ _ ((Kept.refl _ _).alloc _) ?_
        try simp only [Act.put, List.setIfInBounds_toArray, List.set_cons_zero, List.set_cons_succ]
        clear A hA
        refine hd_act 13 rfl (by kernel_rfl) ?_
        refine run_want rfl ?_
        intro A hA
        have hrd := hrdK _ K2'.out
        refine wp_appAt (.tmp 67) (.tmp 74) 63 (by rfl) info_fr Try.underlying63 rfl (by decide) E2.out hrd (by rfl) (by rfl) (one_frrows _) (by omega) K2'.out.size ?_
        intro v9 w9 ho9 hg9 hb9
        rw [List.nil_append, Nat.zero_add] at ho9
        obtain ⟨a9, c9, rfl, _, _⟩ := (Rd.of_own ho9).form
        have G9 := Kept.of_grown (M := Since w4.heap.size) hg9 fun y hy => (E2.out.lt y hy).1
        have K9 := Lib.hid (K2'.out.trans G9)
        have O9 := Lib.hid ho9
        have R9 := Lib.hid (R2.out.kept (M := Lm (.slice (some ⟨w4.heap.size + 1, 0, none⟩) 0 0)) (Kept.of_grown hg9 fun y hy => hy) (fun a n c hv hh => by
          cases hv
          have h1 : w4.heap.size + 1 = w4.heap.size := Option.some.inj hh
          omega))
        refine hA _ _ (G9) ?_
        try simp only [Act.put, List.setIfInBounds_toArray, List.set_cons_zero, List.set_cons_succ]
        clear A hA
        clear ho9 hg9 hb9 G9 hrd
        refine hd_act 17 rfl (by kernel_rfl) ?_
        refine run_want rfl ?_
        intro A hA
        refine wp_appAt (.tmp 75) (.tmp 78) 63 (by rfl) info_fr Try.underlying63 rfl (by decide) O9.out R9.out (by rfl) (by rfl) (by simp [Value.oneCell']) (by omega) K9.out.size ?_
        intro v12 w12 ho12 hg12 hb12
        obtain ⟨a12, c12, rfl, _, _⟩ := (Rd.of_own ho12).form
        have G12 := Kept.of_grown (M := Since w4.heap.size) hg12 fun y hy => (O9.out.lt y hy).1
        have K12 := Lib.hid (K9.out.trans G12)
        have O12 : Hid (w12.ownsRow w4.heap.size TFr 10 (.slice a12 ((s.A k).length + 1) c12) (s.A k ++ [x]).length ((s.A k ++ [x]).flatMap It.fro)) := Lib.hid (by simpa [It.fro] using ho12)
        have hlb : l1.ib < w12.heap.size := Nat.lt_of_lt_of_le la K12.out.size
        have hfb : ∀ i, w12.frozen? ⟨l1.ib, i, none⟩ = false := fun i => (K12.out.frozen l1.ib i la nm).trans (fa i)
        have hcb : w12.cell? ⟨l1.ib, k, none⟩ = some (.slice a (s.A k).length c) := (K12.out.cell l1.ib k la nm).trans cak
        refine hA _ _ (G12) ?_
        try simp only [Act.put, List.setIfInBounds_toArray, List.set_cons_zero, List.set_cons_succ]
        clear A hA
        clear ho12 hg12 hb12 G12
        refine hd_quiet [false, false, false, false, false, false, false, false, false, false, false, false, false, false, false, false, false, false, true, false] (by kernel_rfl) ?_
        simp only [pickAt]
        repeat (go_big_quiet_step (fail))
        refine wpQuiet_nil ?_
        refine hd_tail rfl (by kernel_rfl) ?_
        simp only [List.drop_succ_cons, List.drop_zero]
        go_wp2
        refine NoPanic.normal ?_
        go_wp2
        go_ret2
        exact HFIN.out _ _ _ K12.out O12.out
    · exact absurd hxe hng
    · rw [show nxt s.H s.S n d x.path = ((q : Int), false) from hxe] at hnx
      clear hng
      go_wp2_with fail
      refine wp_region_quiet_lit (by kernel_rfl) (by kernel_rfl) ?_
      try simp only [List.append]
      repeat (first | go_big_quiet_step (first | (go_at_call 54; exact quietD (hnx _)) | (go_at_call 54; exact quietE (hnx _))) | quiet_step (first | (go_at_call 54; exact quietD (hnx _)) | (go_at_call 54; exact quietE (hnx _))))
      refine wpQuiet_nil ?_
      intro W hW
      have F3 : Hid (Mf m l1 { s with P := upd s.P n pp } W) := by obtain ⟨m, rfl⟩ := hW; exact Lib.hid (F2.out.dn m)
      have OX3 : Hid (Ob W X #[.int .i64 x.kind, .int .i64 x.src, .int .i64 x.dst, .int .i64 x.prio, .int .u64 x.msg, .int .i64 x.off, .int .i64 x.len, .int .i64 x.total, .int .i64 x.num, .slice x.da x.dn x.dc, .int .i64 x.path] TX) := by obtain ⟨m, rfl⟩ := hW; exact Lib.hid OX.out.dn
      have K3 : Hid (Kept (MM m l s) w W) := by obtain ⟨m, rfl⟩ := hW; exact Lib.hid (K2.out.dnR m)
      clear hW hnx F2 OX K2 lx fx cx0 cx1 cx2 cx3 cx4 cx5 cx6 cx7 cx8 cx9 cx10 l0 c0 c1 c2 c3
      obtain ⟨lx, cx, fx⟩ := OX3.out.blk
      have cx0 : W.cell? ⟨X, 0, none⟩ = some (.int .i64 x.kind) := cx 0
      have cx1 : W.cell? ⟨X, 1, none⟩ = some (.int .i64 x.src) := cx 1
      have cx2 : W.cell? ⟨X, 2, none⟩ = some (.int .i64 x.dst) := cx 2
      have cx3 : W.cell? ⟨X, 3, none⟩ = some (.int .i64 x.prio) := cx 3
      have cx4 : W.cell? ⟨X, 4, none⟩ = some (.int .u64 x.msg) := cx 4
      have cx5 : W.cell? ⟨X, 5, none⟩ = some (.int .i64 x.off) := cx 5
      have cx6 : W.cell? ⟨X, 6, none⟩ = some (.int .i64 x.len) := cx 6
      have cx7 : W.cell? ⟨X, 7, none⟩ = some (.int .i64 x.total) := cx 7
      have cx8 : W.cell? ⟨X, 8, none⟩ = some (.int .i64 x.num) := cx 8
      have cx9 : W.cell? ⟨X, 9, none⟩ = some (.slice x.da x.dn x.dc) := cx 9
      have cx10 : W.cell? ⟨X, 10, none⟩ = some (.int .i64 x.path) := cx 10
      clear cx
      obtain ⟨l0, c0, c1, c2, c3⟩ := F3.out.cells
      clear c0 c1 c2 c3
      have hpo : ({ s with P := upd s.P n pp } : Ms).ok N := ⟨fun j hj => by
        by_cases e : j = n
        · subst e; show (upd s.P j pp j).ok N; rw [upd_same]; exact HREL.out.ok (HO.out.p _ hn)
        · show (upd s.P n pp j).ok N; rw [upd_other _ _ e]; exact HO.out.p j hj, HO.out.a, HO.out.lost⟩
      have HPO := Lib.hid hpo
      clear hpo
      have hpu := mf_put F3.out HPO.out hN hq hxo
      unfold It.val at hpu
      go_wp2_with fail
      refine (hpu).mono ?_
      rintro e w5 ⟨r, p6, rfl, hrel6, hp6⟩
      have HREL6 := Lib.hid hrel6
      have HP6 : Hid (MfPost m l s (mlostBy { s with P := upd (upd s.P n pp) q p6 } r) w w5) := Lib.hid (MfPost.stepL K3.out G1.out HMM.out hp6)
      clear hrel6 hp6 hpu lx fx cx0 cx1 cx2 cx3 cx4 cx5 cx6 cx7 cx8 cx9 cx10 l0
      go_wp2_with fail
      go_ret2
      have hsr := MServeRel.move (s := s) (n := n) (now := now) x pp q r p6 HREL.out (by rw [HX3.out]; exact hxe) hq HREL6.out
      exact ⟨true, _, rfl, hsr, HP6.out⟩
end
end Go.Proofs.Ytoihhidoafgoaaa
