/- Both fabrics in memory (chapter 15): each pair of calls. -/
import Derived.Test.YtoihhidoafgoaaaFaBI
namespace Go.Proofs.Ytoihhidoafgoaaa
open Go.RowKit

structure Fb (f B0 m : Nat) (l : Fl) (s : Fs) (ml : Ml) (ms : Ms) (W0 w : World) : Prop where
  fa : Fa f B0 l s w
  mf : Mf m ml ms w
  apart : ∀ x, FM f l s x → ¬ RM ml ms x
  bel : Below W0.heap.size W0 w
  base : W0.heap.size ≤ B0
  mb : W0.heap.size ≤ m
  rb : ∀ x, RM ml ms x → W0.heap.size ≤ x
def Bs (f B0 m N : Nat) (W0 w : World) : Prop := ∃ l s ml ms, Fb f B0 m l s ml ms W0 w ∧ Fsim W0 N s ms
section
variable {f B0 m N : Nat} {l : Fl} {s s' : Fs} {ml : Ml} {ms ms' : Ms} {W0 w w' : World}
theorem Fb.below (h : Fb f B0 m l s ml ms W0 w) (hb : Below w.heap.size w w') : Fb f B0 m l s ml ms W0 w' :=
  ⟨h.fa.below hb, h.mf.below hb, h.apart, h.bel.trans (hb.mono h.bel.size), h.base, h.mb, h.rb⟩
theorem Fb.fpost (h : Fb f B0 m l s ml ms W0 w) (hp : FaPost f B0 l s s' w w') : ∃ l', Fb f B0 m l' s' ml ms W0 w' := by
  have hb := hp.bel h.fa h.bel h.base
  obtain ⟨l', h1, h2, h3⟩ := hp
  refine ⟨l', h1, h.mf.ofFa h.fa h.apart h2, fun x hx hr => ?_, hb, h.base, h.mb, h.rb⟩
  rcases h3 x hx with h4 | h4
  · exact h.apart x h4 hr
  · have := h.mf.rlt hr
    omega
theorem Fb.mmge (h : Fb f B0 m l s ml ms W0 w) {x : Nat} (hx : MM m ml ms x) : W0.heap.size ≤ x := by
  rcases hx with rfl | rfl | ⟨i, hi, rfl⟩
  · exact h.mb
  · exact h.rb _ (.inl rfl)
  · exact h.rb _ (.inr (.inl ⟨i, hi, rfl⟩))
theorem Fb.mpost (h : Fb f B0 m l s ml ms W0 w) (hp : MfPost m ml ms ms' w w') : ∃ ml', Fb f B0 m l s ml' ms' W0 w' := by
  obtain ⟨ml', h1, h2, h3⟩ := hp
  refine ⟨ml', h.fa.ofMf h.mf h.apart h2, h1, fun x hx hr => ?_, h.bel.trans (h2.belowAt h.bel.size fun x hx => h.mmge hx), h.base, h.mb, fun x hx => ?_⟩
  · rcases h3 x hr with h4 | h4
    · exact h.apart x hx h4
    · have := h.fa.lt hx
      omega
  · rcases h3 x hx with h4 | h4
    · exact h.rb x h4
    · exact Nat.le_trans h.bel.size h4
theorem Fsim.rtM (h : Fsim W0 N s ms) {n : Nat} (hn : n < nP s.H s.S) : ∀ x, (ms.P n).has x → 0 ≤ x.dst ∧ x.dst < ms.H ∧ nxt ms.H ms.S n x.dst.toNat x.path ≠ (-1, false) := by
  rw [h.H, h.S]
  intro x hx
  have := h.pd n hn x hx
  exact ⟨this.lo, this.hi, this.rt⟩
theorem Fsim.nowM (h : Fsim W0 N s ms) {n : Nat} (hn : n < nP s.H s.S) : (0 ≤ (ms.P n).now ∧ (ms.P n).now ≤ 1125899906842624) ∧ 0 ≤ (ms.P n).last ∧ (ms.P n).last ≤ 1125899906842624 := by
  have S4 := h.p n hn
  refine ⟨?_, ?_⟩
  · have := S4.now; have := S4.pnow; omega
  · rw [S4.last]; have := S4.pok.l0; have := S4.pok.l1; have := S4.pok.n1; omega
theorem kept_fm (hp : FaPost f B0 l s s' w w') : Kept (FM f l s) w w' := by
  obtain ⟨_, _, h2, _⟩ := hp
  exact h2
theorem kept_mm (hp : MfPost m ml ms ms' w w') : Kept (MM m ml ms) w w' := by
  obtain ⟨_, _, h2, _⟩ := hp
  exact h2
theorem fb_send (h : Fb f B0 m l s ml ms W0 w) (hs : Fsim W0 N s ms) (hN : N ≤ 90000) (k : Int) (x : It) (hm : 0 ≤ x.msg) (hd : Di W0 x) :
    Calls Try.prog 10 #[.pointer (some ⟨f, 0, none⟩), .int .i64 k, x.frv, .int .i64 x.path] w fun e w1 => ∃ r g, e = .returned (.tuple #[.int .i64 r, .int .i64 g]) ∧ Kept (FM f l s) w w1 ∧ ∀ w2, Below w1.heap.size w1 w2 →
      Calls Try.prog 21 #[.pointer (some ⟨m, 0, none⟩), .int .i64 k, x.frv, .int .i64 x.path] w2 fun e2 w3 => e2 = .returned (.tuple #[.int .i64 r, .int .i64 g]) ∧ Kept (MM m ml ms) w2 w3 ∧ Bs f B0 m (N + 2) W0 w3 := by
  have hHH := hs.H
  by_cases hok : sendOk s.H k x
  · obtain ⟨a1, a2, a3, a4, a5⟩ := hok
    obtain ⟨q, rfl⟩ : ∃ q : Nat, k = q := ⟨k.toNat, by omega⟩
    have a6 := a3.dst.1
    have a7 : 0 ≤ x.dst := a6
    obtain ⟨d, hdd⟩ : ∃ d : Nat, x.dst = d := ⟨x.dst.toNat, by omega⟩
    have hkp : q < nP s.H s.S := by rw [nP_ls]; omega
    have hl := hs.so.lost
    refine (send_yes h.fa (k := q) (d := d) (by omega) (by omega) hdd (by omega) a3 hd.1 (hd.2.below h.bel) (hs.so.p q hkp) (by omega) (by omega)).mono ?_
    rintro e w1 ⟨r, p', rfl, hr, hp⟩
    refine ⟨r, 0, rfl, kept_fm hp, fun w2 hb => ?_⟩
    obtain ⟨l1, h1⟩ := h.fpost hp
    have h2 := h1.below hb
    refine (mf_send_yes h2.mf hs.mok (by omega) (k := q) (d := d) (by omega) (by omega) hdd (by omega) a3 hd.1).mono ?_
    rintro e w3 ⟨r', t', rfl, hr', hp'⟩
    obtain ⟨e1, e2⟩ := hs.put hkp (x := x) (x' := x) rfl (ok_fr a3 hd.1) (ok2_fr a3 hd.1) ⟨hd, a7, a4, nxt_host hs.hs (by omega)⟩ hr hr'
    subst e1
    obtain ⟨ml3, h3⟩ := h2.mpost hp'
    exact ⟨rfl, kept_mm hp', _, _, _, _, h3, e2⟩
  · refine (send_no h.fa hm hd.1 hok).mono ?_
    rintro e w1 ⟨rfl, hb1⟩
    refine ⟨0, 1, rfl, Kept.of_below hb1, fun w2 hb => ?_⟩
    have h2 := (h.below hb1).below hb
    have key : Calls Try.prog 21 #[.pointer (some ⟨m, 0, none⟩), .int .i64 k, x.frv, .int .i64 x.path] w2 fun e w' => e = .returned (.tuple #[.int .i64 0, .int .i64 1]) ∧ Below w2.heap.size w2 w' := by
      unfold sendOk at hok
      by_cases hk : k < 0 ∨ (s.H : Int) ≤ k
      · exact mf_send_no0 h2.mf (by omega)
      · refine mf_send_no1 h2.mf (by omega) (by omega) hm hd.1 ?_
        by_cases hok2 : okF x.fr
        · have h0 : 0 ≤ x.dst := hok2.dst.1
          by_cases hdd : (ms.H : Int) ≤ x.dst
          · exact .inr (.inl ⟨hok2, hdd⟩)
          · refine .inr (.inr ⟨hok2, h0, by omega, ?_⟩)
            by_cases he : x.dst = k
            · exact he
            · exact absurd ⟨by omega, by omega, hok2, by omega, he⟩ hok
        · exact .inl hok2
    refine key.mono ?_
    rintro e w3 ⟨rfl, hb3⟩
    exact ⟨rfl, Kept.of_below hb3, _, _, _, _, h2.below hb3, hs.mono (by omega)⟩
theorem fb_serve (h : Fb f B0 m l s ml ms W0 w) (hs : Fsim W0 N s ms) (hN : N ≤ 90000) (k now : Int) :
    Calls Try.prog 12 #[.pointer (some ⟨f, 0, none⟩), .int .i64 k, .int .i64 now] w fun e w1 => ∃ b g, e = .returned (.tuple #[.bool b, .int .i64 g]) ∧ Kept (FM f l s) w w1 ∧ ∀ w2, Below w1.heap.size w1 w2 →
      Calls Try.prog 22 #[.pointer (some ⟨m, 0, none⟩), .int .i64 k, .int .i64 now] w2 fun e2 w3 => e2 = .returned (.tuple #[.bool b, .int .i64 g]) ∧ Kept (MM m ml ms) w2 w3 ∧ Bs f B0 m (N + 2) W0 w3 := by
  have hHP : nP ms.H ms.S = nP s.H s.S := by rw [hs.H, hs.S]
  by_cases hk : k < 0 ∨ (nP s.H s.S : Int) ≤ k
  · refine (serve_no h.fa hk).mono ?_
    rintro e w1 ⟨rfl, rfl⟩
    refine ⟨false, 5, rfl, Kept.refl _ _, fun w2 hb => ?_⟩
    have h2 := h.below hb
    refine (mf_serve_no h2.mf (by omega)).mono ?_
    rintro e w3 ⟨rfl, rfl⟩
    exact ⟨rfl, Kept.refl _ _, _, _, _, _, h2, hs.mono (by omega)⟩
  · obtain ⟨q, rfl⟩ : ∃ q : Nat, k = q := ⟨k.toNat, by omega⟩
    have hkp : q < nP s.H s.S := by omega
    refine (serve_yes h.fa hkp hs.so (by omega)).mono ?_
    rintro e w1 ⟨b, s', rfl, hr, hp⟩
    refine ⟨b, 0, rfl, kept_fm hp, fun w2 hb => ?_⟩
    obtain ⟨l1, h1⟩ := h.fpost hp
    have h2 := h1.below hb
    obtain ⟨t1, t2⟩ := hs.nowM hkp
    refine (mf_serve h2.mf hs.mok (by omega) (n := q) (now := now) (by omega) t1 t2 (hs.rtM hkp)).mono ?_
    rintro e w3 ⟨b', ms', rfl, hr', hp'⟩
    obtain ⟨e1, e2⟩ := hs.serve hkp hr hr'
    subst e1
    obtain ⟨ml3, h3⟩ := h2.mpost hp'
    exact ⟨rfl, kept_mm hp', _, _, _, _, h3, e2⟩
theorem fb_drop (h : Fb f B0 m l s ml ms W0 w) (hs : Fsim W0 N s ms) (hN : N ≤ 90000) (k j : Int) (hj : j ≤ 9223372036854775807) :
    Calls Try.prog 18 #[.pointer (some ⟨f, 0, none⟩), .int .i64 k, .int .i64 j] w fun e w1 => ∃ g, e = .returned (.int .i64 g) ∧ Kept (FM f l s) w w1 ∧ ∀ w2, Below w1.heap.size w1 w2 →
      Calls Try.prog 25 #[.pointer (some ⟨m, 0, none⟩), .int .i64 k, .int .i64 j] w2 fun e2 w3 => e2 = .returned (.int .i64 g) ∧ Kept (MM m ml ms) w2 w3 ∧ Bs f B0 m (N + 2) W0 w3 := by
  have hHP : nP ms.H ms.S = nP s.H s.S := by rw [hs.H, hs.S]
  by_cases hk : k < 0 ∨ (nP s.H s.S : Int) ≤ k
  · refine (dropf_no h.fa hk).mono ?_
    rintro e w1 ⟨rfl, hb1⟩
    refine ⟨5, rfl, Kept.of_below hb1, fun w2 hb => ?_⟩
    have h2 := (h.below hb1).below hb
    refine (mf_drop_no h2.mf (by omega)).mono ?_
    rintro e w3 ⟨rfl, hb3⟩
    exact ⟨rfl, Kept.of_below hb3, _, _, _, _, h2.below hb3, hs.mono (by omega)⟩
  · obtain ⟨q, rfl⟩ : ∃ q : Nat, k = q := ⟨k.toNat, by omega⟩
    have hkp : q < nP s.H s.S := by omega
    refine (dropf_yes h.fa hkp hs.so (by omega)).mono ?_
    rintro e w1 ⟨b, s', rfl, hr, hp⟩
    refine ⟨b, rfl, kept_fm hp, fun w2 hb => ?_⟩
    obtain ⟨l1, h1⟩ := h.fpost hp
    have h2 := h1.below hb
    refine (mf_drop h2.mf hs.mok (by omega) (n := q) (by omega) hj).mono ?_
    rintro e w3 ⟨b', ms', rfl, hr', hp'⟩
    obtain ⟨e1, e2⟩ := hs.dropF hkp hr hr'
    subst e1
    obtain ⟨ml3, h3⟩ := h2.mpost hp'
    exact ⟨rfl, kept_mm hp', _, _, _, _, h3, e2⟩
theorem fb_double (h : Fb f B0 m l s ml ms W0 w) (hs : Fsim W0 N s ms) (hN : N ≤ 90000) (k j : Int) :
    Calls Try.prog 26 #[.pointer (some ⟨f, 0, none⟩), .int .i64 k, .int .i64 j] w fun e w1 => ∃ g, e = .returned (.int .i64 g) ∧ Kept (FM f l s) w w1 ∧ ∀ w2, Below w1.heap.size w1 w2 →
      Calls Try.prog 27 #[.pointer (some ⟨m, 0, none⟩), .int .i64 k, .int .i64 j] w2 fun e2 w3 => e2 = .returned (.int .i64 g) ∧ Kept (MM m ml ms) w2 w3 ∧ Bs f B0 m (N + 2) W0 w3 := by
  have hHP : nP ms.H ms.S = nP s.H s.S := by rw [hs.H, hs.S]
  by_cases hk : k < 0 ∨ (nP s.H s.S : Int) ≤ k
  · refine (doublef_no h.fa hk).mono ?_
    rintro e w1 ⟨rfl, hb1⟩
    refine ⟨5, rfl, Kept.of_below hb1, fun w2 hb => ?_⟩
    have h2 := (h.below hb1).below hb
    refine (mf_double_no h2.mf (by omega)).mono ?_
    rintro e w3 ⟨rfl, hb3⟩
    exact ⟨rfl, Kept.of_below hb3, _, _, _, _, h2.below hb3, hs.mono (by omega)⟩
  · obtain ⟨q, rfl⟩ : ∃ q : Nat, k = q := ⟨k.toNat, by omega⟩
    have hkp : q < nP s.H s.S := by omega
    refine (doublef_yes h.fa hkp hs.so (by omega)).mono ?_
    rintro e w1 ⟨b, s', rfl, hr, hp⟩
    refine ⟨b, rfl, kept_fm hp, fun w2 hb => ?_⟩
    obtain ⟨l1, h1⟩ := h.fpost hp
    have h2 := h1.below hb
    refine (mf_double h2.mf hs.mok (by omega) (n := q) (k := j) (by omega)).mono ?_
    rintro e w3 ⟨b', ms', rfl, hr', hp'⟩
    obtain ⟨e1, e2⟩ := hs.doubleF hkp hr hr'
    subst e1
    obtain ⟨ml3, h3⟩ := h2.mpost hp'
    exact ⟨rfl, kept_mm hp', _, _, _, _, h3, e2⟩
theorem Da.fpost {x : It} (hd : Da B0 w x) (h : Fa f B0 l s w) (hp : FaPost f B0 l s s' w w') : Da B0 w' x := by
  obtain ⟨_, _, h2, _⟩ := hp
  exact hd.keptT h2 fun g hg _ => h.ty hg
theorem Da.mpost {x : It} (hd : Da B0 w x) (h : Mf m ml ms w) (hp : MfPost m ml ms ms' w w') : Da B0 w' x := by
  obtain ⟨_, _, h2, _⟩ := hp
  exact hd.keptT h2 fun g hg _ => by
    obtain ⟨T, h1, _, h3⟩ := h.mty hg
    exact ⟨T, h1, h3⟩
/-- both frames are told to be the same, in whatever world comes next -/
def Alike (v v' : Value) (w : World) : Prop := ∀ w2, Below w.heap.size w w2 → Calls Try.prog 24 #[v, v'] w2 fun e w3 => e = .returned (.bool true) ∧ Below w2.heap.size w2 w3
theorem alike_it {x x' : It} (hx : x.plain = x'.plain) (hd : Da B0 w x) (hd' : Di W0 x') (hb : Below W0.heap.size W0 w) : Alike x.frv x'.frv w := fun w2 hb2 => by
  have e := plain_eq hx
  have h1 := (Rd.of_own hd).below hb2
  have h2 := hd'.2.below (hb.trans (hb2.mono hb.size))
  have e1 : x.dn = x'.dn := show x.plain.dn = x'.plain.dn from congrArg It.dn hx
  have e2 : x.bs = x'.bs := show x.plain.bs = x'.plain.bs from congrArg It.bs hx
  rw [e1, e2] at h1
  rw [e]
  exact msame x' x.da x.dc w2 hd'.1 h1 h2
theorem alike_no (w : World) : Alike noFr noFr w := fun w2 _ => by
  have h := msame it0 none 0 w2 rfl (.inl ⟨rfl, rfl, rfl⟩) (.inl ⟨rfl, rfl, rfl⟩)
  exact h
theorem fb_take (h : Fb f B0 m l s ml ms W0 w) (hs : Fsim W0 N s ms) (hN : N ≤ 90000) (k : Int) :
    Calls Try.prog 13 #[.pointer (some ⟨f, 0, none⟩), .int .i64 k] w fun e w1 => ∃ x b, e = .returned (.tuple #[It.frv x, .bool b]) ∧ Kept (FM f l s) w w1 ∧ ∀ w2, Below w1.heap.size w1 w2 →
      Calls Try.prog 23 #[.pointer (some ⟨m, 0, none⟩), .int .i64 k] w2 fun e2 w3 => ∃ x', e2 = .returned (.tuple #[It.frv x', .bool b]) ∧ Kept (MM m ml ms) w2 w3 ∧ Bs f B0 m (N + 2) W0 w3 ∧ Alike (It.frv x) (It.frv x') w3 := by
  have hHH := hs.H
  by_cases hk : k < 0 ∨ (s.H : Int) ≤ k
  · refine (take_no0 h.fa hk).mono ?_
    rintro e w1 ⟨rfl, hb1⟩
    refine ⟨it0, false, rfl, Kept.of_below hb1, fun w2 hb => ?_⟩
    have h2 := (h.below hb1).below hb
    refine (mf_take_no0 h2.mf (by omega)).mono ?_
    rintro e w3 ⟨rfl, hb3⟩
    exact ⟨it0, rfl, Kept.of_below hb3, ⟨_, _, _, _, h2.below hb3, hs.mono (by omega)⟩, alike_no w3⟩
  · obtain ⟨q, rfl⟩ : ∃ q : Nat, k = q := ⟨k.toNat, by omega⟩
    have hkp : q < s.H := by omega
    cases hA : s.A q with
    | nil =>
      have hMA : ms.A q = [] := by
        have := hs.a q hkp
        rw [hA] at this
        exact this.nil_inv
      refine (take_no1 h.fa hkp hA).mono ?_
      rintro e w1 ⟨rfl, hb1⟩
      refine ⟨it0, false, rfl, Kept.of_below hb1, fun w2 hb => ?_⟩
      have h2 := (h.below hb1).below hb
      refine (mf_take_no1 h2.mf (by omega) hMA).mono ?_
      rintro e w3 ⟨rfl, hb3⟩
      exact ⟨it0, rfl, Kept.of_below hb3, ⟨_, _, _, _, h2.below hb3, hs.mono (by omega)⟩, alike_no w3⟩
    | cons x r =>
      obtain ⟨x', r', hMA, hx, hdx, hsim⟩ := hs.takeF hkp hA
      have hle := hs.so.a q hkp
      refine (take_yes h.fa hkp hA (by omega)).mono ?_
      rintro e w1 ⟨rfl, hp⟩
      have hda := (h.fa.data q x hkp (by rw [hA]; exact List.mem_cons_self)).fpost h.fa hp
      refine ⟨x, true, rfl, kept_fm hp, fun w2 hb => ?_⟩
      obtain ⟨l1, h1⟩ := h.fpost hp
      have h2 := h1.below hb
      have hda2 := hda.kept (Kept.of_below (M := fun _ => False) hb) (fun _ _ h => h)
      refine (mf_take_yes h2.mf (by omega) hMA).mono ?_
      rintro e w3 ⟨rfl, hp'⟩
      obtain ⟨ml3, h3⟩ := h2.mpost hp'
      exact ⟨x', rfl, kept_mm hp', ⟨_, _, _, _, h3, hsim.mono (by omega)⟩, alike_it hx (hda2.mpost h2.mf hp') hdx h3.bel⟩
end
end Go.Proofs.Ytoihhidoafgoaaa
