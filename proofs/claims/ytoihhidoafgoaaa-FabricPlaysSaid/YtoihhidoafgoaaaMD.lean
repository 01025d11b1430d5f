/- PortCredits: the plain law of a tick, and the walk. -/
import Derived.Test.YtoihhidoafgoaaaMC
import Derived.Test.YtoihhidoafgoaaaFrame
namespace Go.Proofs.Ytoihhidoafgoaaa
open Go.RowKit

theorem sz_head {x : It} (h : x.kind ≠ 1) : x.sz = 26 := by
  unfold It.sz It.bytes
  rw [if_neg h]
  rfl
def it0 : It := ⟨0, 0, 0, 0, 0, 0, 0, 0, 0, none, 0, 0, 0, []⟩
theorem box_it0 : noBox = boxV it0 := rfl
def crd (j : Int) : It := ⟨11, 0, 1, 0, 0, 0, 0, 0, j, none, 0, 0, 0, []⟩
def ack7 : It := ⟨5, 0, 1, 7, 0, 0, 0, 0, 0, none, 0, 0, 0, []⟩
structure Jc (hv now gone acks : Nat) (p : Pp) : Prop where
  g : gone = min hv ((now + 3) / 4)
  len : p.C.length = hv - gone
  nums : ∀ j y, p.C[j]? = some y → y.kind = 11 ∧ y.num = ((gone + j : Nat) : Int)
  pn : 0 ≤ p.now ∧ p.now ≤ now
  e : p.pc.e = 4
  n : 0 ≤ p.pc.n ∧ p.pc.n ≤ now
  x : p.pc.x = 4 * gone
  q : (acks = 0 ∧ now ≤ 1 ∧ (∃ y, p.L = upd (fun _ => []) 7 [y] ∧ y.kind = 5) ∧ p.u = 26) ∨ (acks = 1 ∧ (∀ i, i < 8 → p.L i = []) ∧ p.u = 0)
def Nums (g : Nat) (C : List It) : Prop := ∀ j y, C[j]? = some y → y.kind = 11 ∧ y.num = ((g + j : Nat) : Int)
theorem Nums.app {C : List It} (h : Nums 0 C) {y : It} (hk : y.kind = 11) (hn : y.num = C.length) : Nums 0 (C ++ [y]) := by
  intro j z hj
  rw [List.getElem?_append] at hj
  split at hj
  · exact h j z hj
  · have hjk : j = C.length := by
      rcases Nat.lt_or_ge (j - C.length) 1 with h | h
      · omega
      · rw [List.getElem?_eq_none (by simpa using h)] at hj; cases hj
    subst hjk
    rw [Nat.sub_self] at hj
    cases hj
    exact ⟨hk, by rw [hn, Nat.zero_add]⟩
theorem tick_now {n : Int} {now : Nat} (h : n ≤ now) (h2 : now ≤ 100000) : tick n now = now := by unfold tick; omega
theorem go_yes {s : Pc} {now : Nat} (h : s.n ≤ now) (h2 : now ≤ 100000) (hd : s.due now = true) : s.go now = ⟨s.e, now, now, true⟩ := by
  unfold Pc.go
  rw [if_pos hd, tick_now h h2]
theorem go_no {s : Pc} {now : Nat} (h : s.n ≤ now) (h2 : now ≤ 100000) (hd : s.due now = false) : s.go now = ⟨s.e, now, s.l, s.v⟩ := by
  unfold Pc.go
  rw [if_neg (by simp [hd]), tick_now h h2]
/-- a tick that gives no credit -/
theorem Jc.line {hv now gone acks : Nat} {p p1 : Pp} (hJ : Jc hv now gone acks p) (hg : gone = min hv ((now + 1 + 3) / 4)) (h1 : p1.C = p.C) (h2 : p1.now = now) (h3 : p1.pc.e = 4) (h4 : 0 ≤ p1.pc.n ∧ p1.pc.n ≤ now) (h5 : p1.pc.x = p.pc.x) (h6 : p1.L = p.L) (h7 : p1.u = p.u) {b B0 : Nat} {l : Pl} {w : World} {e : Ending} {w' : World} (ht : TakeQ b B0 l p1 w e w') : ∃ x ok p', e = .returned (.tuple #[boxV x, .bool ok]) ∧ PoPost b B0 l p' w w' ∧ ((ok = true ∧ x.kind = 5 ∧ acks = 0 ∧ Jc hv (now + 1) gone 1 p') ∨ (ok = false ∧ acks = 1 ∧ Jc hv (now + 1) gone 1 p')) := by
  rcases ht with ⟨he, hnone, hp⟩ | ⟨i, x, r, hi, hL, hab, he, hp⟩
  · refine ⟨it0, false, p1, he, hp, .inr ⟨rfl, ?_, ?_⟩⟩
    · rcases hJ.q with ⟨_, _, ⟨y, hy, _⟩, _⟩ | ⟨h, _⟩
      · have := hnone 7 (by decide)
        rw [h6, hy, upd_same] at this
        cases this
      · exact h
    · refine ⟨hg, by rw [h1]; exact hJ.len, by rw [h1]; exact hJ.nums, by rw [h2]; omega, h3, by omega, by rw [h5]; exact hJ.x, .inr ⟨rfl, hnone, ?_⟩⟩
      rcases hJ.q with ⟨_, _, ⟨y, hy, _⟩, _⟩ | ⟨_, _, h⟩
      · have := hnone 7 (by decide)
        rw [h6, hy, upd_same] at this
        cases this
      · rw [h7]; exact h
  · rcases hJ.q with ⟨ha, hn1, ⟨y, hy, hyk⟩, hu⟩ | ⟨_, h, _⟩
    · have hi7 : i = 7 := by
        rcases Nat.decEq i 7 with h | h
        · rw [h6, hy, upd_other _ _ h] at hL
          cases hL
        · exact h
      subst hi7
      rw [h6, hy, upd_same] at hL
      injection hL with hx hr
      subst hx
      subst hr
      refine ⟨y, true, _, he, hp, .inl ⟨rfl, hyk, ha, hg, by rw [h1]; exact hJ.len, by rw [h1]; exact hJ.nums, by show 0 ≤ p1.now ∧ p1.now ≤ _; rw [h2]; omega, h3, by show 0 ≤ p1.pc.n ∧ p1.pc.n ≤ _; omega, by show p1.pc.x = _; rw [h5]; exact hJ.x, .inr ⟨rfl, fun j hj => ?_, ?_⟩⟩⟩
      · show upd p1.L 7 [] j = []
        by_cases hj7 : j = 7
        · subst hj7; rw [upd_same]
        · rw [upd_other _ _ hj7, h6, hy, upd_other _ _ hj7]
      · show p1.u - y.sz = 0
        rw [h7, hu, sz_head (by rw [hyk]; decide)]
        rfl
    · rw [h6, h i hi] at hL
      cases hL
theorem takeJ (b B0 : Nat) (l : Pl) (p : Pp) (hv now gone acks : Nat) (w : World) (h : Po b B0 l p w) (hJ : Jc hv now gone acks p) (hh : hv ≤ 30) (hnow : now ≤ 200) : Calls Try.prog 39 #[.pointer (some ⟨b, 0, none⟩), .int .i64 now] w fun e w' => ∃ x ok p', e = .returned (.tuple #[boxV x, .bool ok]) ∧ PoPost b B0 l p' w w' ∧ ((ok = true ∧ x.kind = 11 ∧ now % 4 = 0 ∧ x.num = gone ∧ Jc hv (now + 1) (gone + 1) acks p') ∨ (ok = true ∧ x.kind = 5 ∧ acks = 0 ∧ Jc hv (now + 1) gone 1 p') ∨ (ok = false ∧ acks = 1 ∧ Jc hv (now + 1) gone 1 p')) := by
  have ht : max p.now (now : Int) = now := by have := hJ.pn; omega
  have hg := hJ.g
  have hlen := hJ.len
  have hu : ∀ i x r, i < 8 → p.L i = x :: r → x.sz ≤ p.u := fun i x r hi hL => by
    rcases hJ.q with ⟨ha, hn1, ⟨y, hy, hyk⟩, hu⟩ | ⟨_, h, _⟩
    · by_cases h : i = 7
      · subst h
        rw [hy, upd_same] at hL
        injection hL with hx _
        subst hx
        rw [hu, sz_head (by rw [hyk]; decide)]
        decide
      · rw [hy, upd_other _ _ h] at hL
        cases hL
    · rw [h i hi] at hL; cases hL
  have hu2 : p.u ≤ 1099511627776 := by
    rcases hJ.q with ⟨_, _, _, h⟩ | ⟨_, _, h⟩
    · omega
    · omega
  have hdue : p.pc.due now = decide (4 * gone ≤ now) := by
    unfold Pc.due
    rw [hJ.x, tick_now hJ.n.2 (by omega)]
    simp only [decide_eq_decide]
    omega
  rcases Nat.eq_zero_or_pos p.C.length with hC | hC
  · refine (take_q0 b B0 l p now now w h hC ht hu hu2).mono ?_
    intro e w' hq
    obtain ⟨x, ok, p', h1, h2, h3⟩ := hJ.line (p1 := { p with now := now }) (by omega) rfl rfl hJ.e ⟨hJ.n.1, hJ.n.2⟩ rfl rfl rfl hq
    exact ⟨x, ok, p', h1, h2, .inr h3⟩
  · by_cases hd : 4 * gone ≤ now
    · obtain ⟨x, r, hxr⟩ : ∃ x r, p.C = x :: r := List.exists_cons_of_ne_nil (by intro hh; rw [hh] at hC; cases hC)
      have hdd : p.pc.due now = true := by rw [hdue]; exact decide_eq_true hd
      have hm : now % 4 = 0 := by omega
      obtain ⟨hk, hn⟩ := hJ.nums 0 x (by rw [hxr]; rfl)
      refine (take_cred b B0 l p x r now now w h hxr ht hdd (by omega)).mono ?_
      rintro e w' ⟨rfl, hp⟩
      rw [go_yes hJ.n.2 (by omega) hdd] at hp
      refine ⟨x, true, _, rfl, hp, .inl ⟨rfl, hk, hm, by rw [hn]; simp, ?_, ?_, fun j y hj => ?_, ?_, hJ.e, ?_, ?_, ?_⟩⟩
      · omega
      · show r.length = _
        rw [hxr] at hlen
        rw [List.length_cons] at hlen
        omega
      · have := hJ.nums (j + 1) y (by rw [hxr]; exact hj)
        refine ⟨this.1, ?_⟩
        rw [this.2]
        push_cast
        omega
      · show 0 ≤ (now : Int) ∧ (now : Int) ≤ _
        omega
      · show 0 ≤ (now : Int) ∧ (now : Int) ≤ _
        omega
      · show Pc.x ⟨p.pc.e, now, now, true⟩ = _
        unfold Pc.x
        rw [if_pos rfl]
        show (now : Int) + p.pc.e = _
        rw [hJ.e]
        push_cast
        omega
      · rcases hJ.q with ⟨ha, hn1, hy, hu⟩ | h
        · exact .inl ⟨ha, by omega, hy, hu⟩
        · exact .inr h
    · have hdd : p.pc.due now = false := by rw [hdue]; exact decide_eq_false hd
      refine (take_q1 b B0 l p now now w h hC hdd ht hu hu2).mono ?_
      intro e w' hq
      have hgo := go_no hJ.n.2 (by omega) hdd
      obtain ⟨x, ok, p', h1, h2, h3⟩ := hJ.line (p1 := { p with now := now, pc := p.pc.go now }) (by omega) rfl rfl (by rw [hgo]; exact hJ.e) (by rw [hgo]; show 0 ≤ (now : Int) ∧ (now : Int) ≤ now; omega) (by rw [hgo]; rfl) rfl rfl hq
      exact ⟨x, ok, p', h1, h2, .inr h3⟩
end Go.Proofs.Ytoihhidoafgoaaa
/- A port (chapter 13): what waits. -/
namespace Go.Proofs.Ytoihhidoafgoaaa
open Go.RowKit

/-- the same items, their data elsewhere -/
def It.plain (x : It) : It := { x with da := none, dc := 0 }
def Like (Y W : List It) : Prop := Y.map It.plain = W.map It.plain
theorem Like.len {Y W : List It} (h : Like Y W) : Y.length = W.length := by
  have := congrArg List.length h
  simpa using this
theorem Like.nil : Like [] [] := rfl
theorem Like.app {Y W : List It} (h : Like Y W) (x : It) (a : Option Addr) (c : Nat) : Like (Y ++ [x.data a c]) (W ++ [x]) := by
  unfold Like at *
  rw [List.map_append, List.map_append, h]
  rfl
def wfrom (L : Nat → List It) : Nat → List It
  | 0 => []
  | k + 1 => wfrom L k ++ L (7 - k)
def Pp.waits (p : Pp) : List It := wfrom p.L 8 ++ p.C
theorem wfrom_len (L : Nat → List It) (N : Nat) (h : ∀ i, i < 8 → (L i).length ≤ N) : ∀ k, k ≤ 8 → (wfrom L k).length ≤ k * N
  | 0, _ => by simp [wfrom]
  | k + 1, hk => by
    have h1 := wfrom_len L N h k (by omega)
    have h2 := h (7 - k) (by omega)
    rw [wfrom, List.length_append, Nat.succ_mul]; omega
structure Wr (B : Nat) (v : Value) (W : List It) (w0 w : World) : Prop where
  ex : ∃ Y, Like Y W ∧ w.ownsRow B TIt 11 v Y.length (Y.flatMap It.row) ∧ ∀ y ∈ Y, Da B w y
  bel : Below B w0 w
theorem Wr.below {B : Nat} {v : Value} {W : List It} {w0 w w' : World} (h : Wr B v W w0 w) (hB : B ≤ w.heap.size) (hb : Below w.heap.size w w') : Wr B v W w0 w' := by
  obtain ⟨⟨Y, h1, h2, h3⟩, h4⟩ := h
  exact ⟨⟨Y, h1, own_kept h2 (Kept.of_below (M := fun _ => False) hb) (fun _ _ h => h), fun y hy => (h3 y hy).kept (Kept.of_below (M := fun _ => False) hb) (fun _ _ h => h)⟩, h4.trans (hb.mono hB)⟩
theorem Wr.lt {B : Nat} {v : Value} {W : List It} {w0 w : World} (h : Wr B v W w0 w) {g : Nat} (hg : v.ownBlock = some g) : B ≤ g ∧ g < w.heap.size := by
  obtain ⟨⟨Y, h1, h2, h3⟩, h4⟩ := h
  exact h2.lt g hg
/-- not a block of this row -/
def Nv (v : Value) : Nat → Prop := fun x => v.ownBlock ≠ some x
def WaitPost (W : List It) (w : World) (e : Ending) (w' : World) : Prop := ∃ v, e = .returned v ∧ Wr w.heap.size v W w w'
set_option maxRecDepth 100000 in
set_option maxHeartbeats 4000000 in
theorem wait_pt (b B0 : Nat) (l : Pl) (p : Pp) (w : World) (h : Po b B0 l p w) (hl : ∀ i, i < 8 → (p.L i).length ≤ 1000000) (hl2 : p.C.length ≤ 1000000) (hdn : ∀ x, p.has x → x.dn ≤ 1073741824) : Calls Try.prog 45 #[.pointer (some ⟨b, 0, none⟩)] w (WaitPost p.waits w) := by
  have HP := Lib.hid h
  have HLE := Lib.hid (wfrom_len p.L 1000000 hl)
  have lb := h.ob.lt
  have cb0 : w.cell? ⟨b, 0, none⟩ = some (.pointer (some ⟨l.q, 0, none⟩)) := (h.ob.blk).2.1 0
  obtain ⟨a, c, hv, _, _⟩ := h.form
  have cb1 : w.cell? ⟨b, 1, none⟩ = some (.slice a p.C.length c) := ((h.ob.blk).2.1 1).trans (congrArg some hv)
  have HV := Lib.hid hv
  have sw0 : b < w.heap.size := lb
  clear h hv
  go_enter Try.func45, Try.ntmps45
  go_wp2_with fail
  go_loopw [2, 3, 5] (fun o pr _ wr => ∃ k : Nat, k ≤ 8 ∧ pr = .int .i64 (7 - k) ∧ Wr w.heap.size o (wfrom p.L k) w wr) (fun _ pr _ _ => (intOf pr + 1).toNat)
  case atStart => exact ⟨0, by omega, rfl, ⟨[], Like.nil, World.ownsRow_nil _ _ _ _, fun y hy => (by cases hy)⟩, Below.refl _ _⟩
  case round =>
    obtain ⟨k, hk, rfl, hwr⟩ := hrel
    have HK := Lib.hid hwr
    have swk := hwr.bel.size
    clear hwr
    rename World => wk
    have P1 := Lib.hid (HP.out.below HK.out.bel)
    have cells := (P1.out.ob.blk).2.1
    have lbk := P1.out.ob.lt
    have cbk0 : wk.cell? ⟨b, 0, none⟩ = some (.pointer (some ⟨l.q, 0, none⟩)) := cells 0
    have cbk1 : wk.cell? ⟨b, 1, none⟩ = some (.slice a p.C.length c) := (cells 1).trans (congrArg some HV.out)
    clear cells
    have hle := HLE.out k hk
    by_cases h8 : k < 8
    · obtain ⟨q, hq⟩ : ∃ q : Nat, q = 7 - k := ⟨_, rfl⟩
      have hq8 : q < 8 := by omega
      have hqi : (7 : Int) - k = q := by omega
      have hlq := hl q hq8
      have HQ := Lib.hid hq
      have HQI := Lib.hid hqi
      rw [hqi]
      clear hq hqi
      go_wp2_with fail
      refine (line_any l.q B0 l.V p.room p.u p.L q wk P1.out.qu hq8 hlq).mono ?_
      rintro e w2 ⟨v, rfl, hov, hb2⟩
      obtain ⟨av, cv, rfl, _, _⟩ := (Rd.of_own hov).form
      have HRX := Lib.hid hov
      have hgv : ∀ g, (Value.slice av (p.L q).length cv).ownBlock = some g → g < w2.heap.size := fun g hg => (hov.lt g hg).2
      have HW2 := Lib.hid (HK.out.below swk hb2)
      clear hov hb2 lbk cbk0 cbk1
      go_wp2_with fail
      go_loopw [2, 5, 21] (fun o _ i wr => ∃ j : Nat, j ≤ (p.L q).length ∧ i = .int .i64 j ∧ Wr w.heap.size o (wfrom p.L k ++ (p.L q).take j) w wr ∧ Kept (Nv (.slice av (p.L q).length cv)) w2 wr ∧ ∀ g, o.ownBlock = some g → Nv (.slice av (p.L q).length cv) g) (fun _ _ i _ => (p.L q).length - (intOf i).toNat)
      case atStart => exact ⟨0, by omega, rfl, by simpa using HW2.out, Kept.refl _ _, fun g hg hh => by have h1 := (HK.out.lt hg).2; have h2 := (HRX.out.lt g hh).1; omega⟩
      case round =>
        obtain ⟨j, hj, rfl, hwr, hbX, hoX⟩ := hrel
        have HBX := Lib.hid hbX
        have HOX := Lib.hid hoX
        have sX := hbX.size
        clear hbX hoX
        obtain ⟨⟨Y, hY, ho, hd⟩, hbel⟩ := hwr
        have hlen : Y.length ≤ 10000000 := by
          have h1 := hY.len
          rw [List.length_append, List.length_take] at h1; omega
        obtain ⟨ao, co, rfl, _, _⟩ := (Rd.of_own ho).form
        have HY := Lib.hid hY
        have HO := Lib.hid ho
        have HD := Lib.hid hd
        have HB := Lib.hid hbel
        have sw := hbel.size
        clear hY ho hd hbel
        rename World => wi
        by_cases hlt : j < (p.L q).length
        · obtain ⟨g, o, hgo, hg, hc⟩ := (Rd.of_own (own_kept HRX.out HBX.out fun x hx hn => hn hx)).row rowIt (by decide) j hlt
          cases hgo
          have hxm : p.has ((p.L q)[j]) := .inr ⟨q, hq8, List.getElem_mem hlt⟩
          have HS := Lib.hid (show (p.L q).take (j + 1) = (p.L q).take j ++ [(p.L q)[j]] from List.take_succ_eq_append_getElem hlt)
          generalize (p.L q)[j] = x at hc HS hxm
          have RX := Lib.hid (Rd.of_own (((HP.out.below HB.out).data x hxm)))
          have hxd : x.dn ≤ 1073741824 := hdn x hxm
          have c0 := hc 0 _ rfl
          have c1 := hc 1 _ rfl
          have c2 := hc 2 _ rfl
          have c3 := hc 3 _ rfl
          have c4 := hc 4 _ rfl
          have c5 := hc 5 _ rfl
          have c6 := hc 6 _ rfl
          have c7 := hc 7 _ rfl
          have c8 := hc 8 _ rfl
          have c9 := hc 9 _ rfl
          have c10 := hc 10 _ rfl
          rw [Nat.add_zero] at c0
          clear hc
          go_upto_region 9 with fail
          have KA : Hid (Kept (fun _ => False) wi (wi.alloc (.cells #[.int .i64 x.kind, .int .i64 x.src, .int .i64 x.dst, .int .i64 x.prio, .int .u64 x.msg, .int .i64 x.off, .int .i64 x.len, .int .i64 x.total, .int .i64 x.num, .slice x.da x.dn x.dc, .int .i64 x.path] TIt))) := Lib.hid ((Kept.refl _ _).alloc _)
          have BA := Lib.hid (HB.out.alloc sw (.cells #[.int .i64 x.kind, .int .i64 x.src, .int .i64 x.dst, .int .i64 x.prio, .int .u64 x.msg, .int .i64 x.off, .int .i64 x.len, .int .i64 x.total, .int .i64 x.num, .slice x.da x.dn x.dc, .int .i64 x.path] TIt))
          have OA := Lib.hid (Ob.new wi #[.int .i64 x.kind, .int .i64 x.src, .int .i64 x.dst, .int .i64 x.prio, .int .u64 x.msg, .int .i64 x.off, .int .i64 x.len, .int .i64 x.total, .int .i64 x.num, .slice x.da x.dn x.dc, .int .i64 x.path] TIt)
          obtain ⟨X, HX⟩ : ∃ X, Hid (wi.heap.size = X) := ⟨_, Lib.hid rfl⟩
          rw [HX.out] at OA ⊢
          clear c0 c1 c2 c3 c4 c5 c6 c7 c8 c9 c10
          generalize wi.alloc (.cells #[.int .i64 x.kind, .int .i64 x.src, .int .i64 x.dst, .int .i64 x.prio, .int .u64 x.msg, .int .i64 x.off, .int .i64 x.len, .int .i64 x.total, .int .i64 x.num, .slice x.da x.dn x.dc, .int .i64 x.path] TIt) = wa at *
          obtain ⟨lx, cx, fx⟩ := OA.out.blk
          have cx0 : wa.cell? ⟨X, 0, none⟩ = some (.int .i64 x.kind) := cx 0
          have cx1 : wa.cell? ⟨X, 1, none⟩ = some (.int .i64 x.src) := cx 1
          have cx2 : wa.cell? ⟨X, 2, none⟩ = some (.int .i64 x.dst) := cx 2
          have cx3 : wa.cell? ⟨X, 3, none⟩ = some (.int .i64 x.prio) := cx 3
          have cx4 : wa.cell? ⟨X, 4, none⟩ = some (.int .u64 x.msg) := cx 4
          have cx5 : wa.cell? ⟨X, 5, none⟩ = some (.int .i64 x.off) := cx 5
          have cx6 : wa.cell? ⟨X, 6, none⟩ = some (.int .i64 x.len) := cx 6
          have cx7 : wa.cell? ⟨X, 7, none⟩ = some (.int .i64 x.total) := cx 7
          have cx8 : wa.cell? ⟨X, 8, none⟩ = some (.int .i64 x.num) := cx 8
          have cx9 : wa.cell? ⟨X, 9, none⟩ = some (.slice x.da x.dn x.dc) := cx 9
          have cx10 : wa.cell? ⟨X, 10, none⟩ = some (.int .i64 x.path) := cx 10
          clear cx
          have hown := pown x x.bs wa (RX.out.kept KA.out (fun _ _ _ _ h => h)) hxd
          unfold It.val at hown
          go_wp2_with fail
          refine (hown).mono ?_
          rintro e wb ⟨a6, c6, rfl, ho6, hb6⟩
          have KB := Lib.hid (KA.out.trans (Kept.of_below hb6))
          have BB := Lib.hid (BA.out.trans (hb6.mono BA.out.size))
          obtain ⟨y, hy⟩ : ∃ y, x.data a6 c6 = y := ⟨_, rfl⟩
          have HYY := Lib.hid hy
          have D6 : Hid (Da w.heap.size wb y) := Lib.hid (by rw [← hy]; exact own_baseP ho6 BA.out.size)
          rw [hy]
          clear hy ho6 hb6 hown cx0 cx1 cx2 cx3 cx4 cx5 cx6 cx7 cx8 cx9 cx10 lx fx
          have KC : Hid (Kept (fun _ => False) wi (wb.alloc (.cells #[.int .i64 y.kind, .int .i64 y.src, .int .i64 y.dst, .int .i64 y.prio, .int .u64 y.msg, .int .i64 y.off, .int .i64 y.len, .int .i64 y.total, .int .i64 y.num, .slice y.da y.dn y.dc, .int .i64 y.path] TIt))) := Lib.hid (KB.out.alloc _)
          have HA : Hid (wb.ownsRow w.heap.size TIt 11 (.slice ao Y.length co) Y.length (Y.flatMap It.row)) := Lib.hid (own_kept HO.out KB.out fun _ _ h => h)
          have sb := BB.out.size
          have HA2 : Hid ((wb.alloc (.cells #[.int .i64 y.kind, .int .i64 y.src, .int .i64 y.dst, .int .i64 y.prio, .int .u64 y.msg, .int .i64 y.off, .int .i64 y.len, .int .i64 y.total, .int .i64 y.num, .slice y.da y.dn y.dc, .int .i64 y.path] TIt)).ownsRow w.heap.size TIt 11 (.slice ao Y.length co) Y.length (Y.flatMap It.row)) := Lib.hid (own_kept HO.out KC.out fun _ _ h => h)
          have RA2 := Lib.hid (Rd.one (k := 11) wb #[.int .i64 y.kind, .int .i64 y.src, .int .i64 y.dst, .int .i64 y.prio, .int .u64 y.msg, .int .i64 y.off, .int .i64 y.len, .int .i64 y.total, .int .i64 y.num, .slice y.da y.dn y.dc, .int .i64 y.path] TIt rfl)
          have sb2 : w.heap.size ≤ (wb.alloc (.cells #[.int .i64 y.kind, .int .i64 y.src, .int .i64 y.dst, .int .i64 y.prio, .int .u64 y.msg, .int .i64 y.off, .int .i64 y.len, .int .i64 y.total, .int .i64 y.num, .slice y.da y.dn y.dc, .int .i64 y.path] TIt)).heap.size := by rw [World.size_alloc]; omega
          go_wp2_with (at_builtin; refine wpList_appAt rfl (.tmp 25) (.tmp 28) 87 rfl info_it2 Try.underlying87 rfl (by decide) HA2.out RA2.out rfl rfl (by simp [Value.oneCell']) (by omega) sb2 ?_; intro v' w' ho' hg' hf')
          have hG := Kept.of_grown (M := Lm (.slice ao Y.length co)) hg' (fun z hz => hz)
          have hb' : Below w.heap.size (wb.alloc (.cells #[.int .i64 y.kind, .int .i64 y.src, .int .i64 y.dst, .int .i64 y.prio, .int .u64 y.msg, .int .i64 y.off, .int .i64 y.len, .int .i64 y.total, .int .i64 y.num, .slice y.da y.dn y.dc, .int .i64 y.path] TIt)) w' := grown_below HA2.out hg' sb2
          have hDT : ∀ z, Da w.heap.size (wb.alloc (.cells #[.int .i64 y.kind, .int .i64 y.src, .int .i64 y.dst, .int .i64 y.prio, .int .u64 y.msg, .int .i64 y.off, .int .i64 y.len, .int .i64 y.total, .int .i64 y.num, .slice y.da y.dn y.dc, .int .i64 y.path] TIt)) z → Da w.heap.size w' z := fun z hz => hz.keptT hG fun g hg _ => ⟨TIt, own_ty HA2.out hg, by decide⟩
          have D7 := D6.out.kept (M := fun _ => False) ((Kept.refl _ _).alloc (.cells #[.int .i64 y.kind, .int .i64 y.src, .int .i64 y.dst, .int .i64 y.prio, .int .u64 y.msg, .int .i64 y.off, .int .i64 y.len, .int .i64 y.total, .int .i64 y.num, .slice y.da y.dn y.dc, .int .i64 y.path] TIt)) (fun _ _ h => h)
          go_roundw
          case rel =>
            refine ⟨j + 1, by omega, by go_num, ⟨⟨Y ++ [y], ?_, by simpa [It.row] using ho', fun z hz => ?_⟩, ?_⟩, ?_, fun g hg => ?_⟩
            · rw [HS.out, ← List.append_assoc, ← HYY.out]
              exact HY.out.app x a6 c6
            · rcases List.mem_append.1 hz with hz | hz
              · exact hDT z ((HD.out z hz).kept KC.out (fun _ _ h => h))
              · rw [List.mem_singleton.1 hz]
                exact hDT y D7
            · exact (BB.out.alloc sb _).trans hb'
            · exact (HBX.out.trans (KC.out.mono fun _ _ h => h.elim)).trans (hG.mono fun g _ hg => HOX.out g hg)
            · rcases hf' with h | h
              · rw [h] at hg; exact HOX.out g hg
              · rw [h] at hg
                cases hg
                exact fun hh => absurd (Nat.lt_of_lt_of_le (hgv _ hh) (Nat.le_trans sX KC.out.size)) (Nat.lt_irrefl _)
          case measure => simp [intOf]; omega
        · obtain rfl : j = (p.L q).length := by omega
          go_wp2_with fail
          go_roundw
          case rel =>
            refine ⟨k + 1, by omega, by have := HQI.out; congr 1; push_cast; omega, ?_⟩
            obtain ⟨⟨Y2, h1, h2, h3⟩, h4⟩ := (⟨⟨Y, HY.out, HO.out, HD.out⟩, HB.out⟩ : Wr w.heap.size (.slice ao Y.length co) _ w wi)
            refine ⟨⟨Y2, ?_, h2, h3⟩, h4⟩
            rw [List.take_length, HQ.out] at h1
            exact h1
          case measure => simp [intOf]

    · obtain rfl : k = 8 := by omega
      rw [show (7 : Int) - ((8 : Nat) : Int) = -1 from rfl]
      have HRX := Lib.hid P1.out.own
      rw [HV.out] at HRX
      have hgv : ∀ g, (Value.slice a p.C.length c).ownBlock = some g → g < wk.heap.size := fun g hg => (HRX.out.lt g hg).2
      have hgw : ∀ g, (Value.slice a p.C.length c).ownBlock = some g → g < w.heap.size := fun g hg => (HP.out.own.lt g (by rw [HV.out]; exact hg)).2
      have HGV := Lib.hid hgw
      clear hgw
      go_wp2_with fail
      go_loopw [2, 7, 36] (fun o _ i wr => ∃ j : Nat, j ≤ p.C.length ∧ i = .int .i64 j ∧ Wr w.heap.size o (wfrom p.L 8 ++ p.C.take j) w wr ∧ Kept (Nv (.slice a p.C.length c)) wk wr ∧ ∀ g, o.ownBlock = some g → Nv (.slice a p.C.length c) g) (fun _ _ i _ => p.C.length - (intOf i).toNat)
      case atStart => exact ⟨0, by omega, rfl, by simpa using HK.out, Kept.refl _ _, fun g hg hh => by have h1 := (HK.out.lt hg).1; have h2 := HGV.out g hh; omega⟩
      case round =>
        obtain ⟨j, hj, rfl, hwr, hbX, hoX⟩ := hrel
        have HBX := Lib.hid hbX
        have HOX := Lib.hid hoX
        have sX := hbX.size
        clear hbX hoX
        obtain ⟨⟨Y, hY, ho, hd⟩, hbel⟩ := hwr
        have hlen : Y.length ≤ 10000000 := by
          have h1 := hY.len
          rw [List.length_append, List.length_take] at h1; omega
        obtain ⟨ao, co, rfl, _, _⟩ := (Rd.of_own ho).form
        have HY := Lib.hid hY
        have HO := Lib.hid ho
        have HD := Lib.hid hd
        have HB := Lib.hid hbel
        have sw := hbel.size
        clear hY ho hd hbel
        rename World => wi
        by_cases hlt : j < (p.C).length
        · obtain ⟨g, o, hgo, hg, hc⟩ := (Rd.of_own (own_kept HRX.out HBX.out fun x hx hn => hn hx)).row rowIt (by decide) j hlt
          cases hgo
          have hxm : p.has ((p.C)[j]) := .inl (List.getElem_mem hlt)
          have HS := Lib.hid (show (p.C).take (j + 1) = (p.C).take j ++ [(p.C)[j]] from List.take_succ_eq_append_getElem hlt)
          generalize (p.C)[j] = x at hc HS hxm
          have RX := Lib.hid (Rd.of_own (((HP.out.below HB.out).data x hxm)))
          have hxd : x.dn ≤ 1073741824 := hdn x hxm
          have c0 := hc 0 _ rfl
          have c1 := hc 1 _ rfl
          have c2 := hc 2 _ rfl
          have c3 := hc 3 _ rfl
          have c4 := hc 4 _ rfl
          have c5 := hc 5 _ rfl
          have c6 := hc 6 _ rfl
          have c7 := hc 7 _ rfl
          have c8 := hc 8 _ rfl
          have c9 := hc 9 _ rfl
          have c10 := hc 10 _ rfl
          rw [Nat.add_zero] at c0
          clear hc
          go_upto_region 14 with fail
          have KA : Hid (Kept (fun _ => False) wi (wi.alloc (.cells #[.int .i64 x.kind, .int .i64 x.src, .int .i64 x.dst, .int .i64 x.prio, .int .u64 x.msg, .int .i64 x.off, .int .i64 x.len, .int .i64 x.total, .int .i64 x.num, .slice x.da x.dn x.dc, .int .i64 x.path] TIt))) := Lib.hid ((Kept.refl _ _).alloc _)
          have BA := Lib.hid (HB.out.alloc sw (.cells #[.int .i64 x.kind, .int .i64 x.src, .int .i64 x.dst, .int .i64 x.prio, .int .u64 x.msg, .int .i64 x.off, .int .i64 x.len, .int .i64 x.total, .int .i64 x.num, .slice x.da x.dn x.dc, .int .i64 x.path] TIt))
          have OA := Lib.hid (Ob.new wi #[.int .i64 x.kind, .int .i64 x.src, .int .i64 x.dst, .int .i64 x.prio, .int .u64 x.msg, .int .i64 x.off, .int .i64 x.len, .int .i64 x.total, .int .i64 x.num, .slice x.da x.dn x.dc, .int .i64 x.path] TIt)
          obtain ⟨X, HX⟩ : ∃ X, Hid (wi.heap.size = X) := ⟨_, Lib.hid rfl⟩
          rw [HX.out] at OA ⊢
          clear c0 c1 c2 c3 c4 c5 c6 c7 c8 c9 c10
          generalize wi.alloc (.cells #[.int .i64 x.kind, .int .i64 x.src, .int .i64 x.dst, .int .i64 x.prio, .int .u64 x.msg, .int .i64 x.off, .int .i64 x.len, .int .i64 x.total, .int .i64 x.num, .slice x.da x.dn x.dc, .int .i64 x.path] TIt) = wa at *
          obtain ⟨lx, cx, fx⟩ := OA.out.blk
          have cx0 : wa.cell? ⟨X, 0, none⟩ = some (.int .i64 x.kind) := cx 0
          have cx1 : wa.cell? ⟨X, 1, none⟩ = some (.int .i64 x.src) := cx 1
          have cx2 : wa.cell? ⟨X, 2, none⟩ = some (.int .i64 x.dst) := cx 2
          have cx3 : wa.cell? ⟨X, 3, none⟩ = some (.int .i64 x.prio) := cx 3
          have cx4 : wa.cell? ⟨X, 4, none⟩ = some (.int .u64 x.msg) := cx 4
          have cx5 : wa.cell? ⟨X, 5, none⟩ = some (.int .i64 x.off) := cx 5
          have cx6 : wa.cell? ⟨X, 6, none⟩ = some (.int .i64 x.len) := cx 6
          have cx7 : wa.cell? ⟨X, 7, none⟩ = some (.int .i64 x.total) := cx 7
          have cx8 : wa.cell? ⟨X, 8, none⟩ = some (.int .i64 x.num) := cx 8
          have cx9 : wa.cell? ⟨X, 9, none⟩ = some (.slice x.da x.dn x.dc) := cx 9
          have cx10 : wa.cell? ⟨X, 10, none⟩ = some (.int .i64 x.path) := cx 10
          clear cx
          have hown := pown x x.bs wa (RX.out.kept KA.out (fun _ _ _ _ h => h)) hxd
          unfold It.val at hown
          go_wp2_with fail
          refine (hown).mono ?_
          rintro e wb ⟨a6, c6, rfl, ho6, hb6⟩
          have KB := Lib.hid (KA.out.trans (Kept.of_below hb6))
          have BB := Lib.hid (BA.out.trans (hb6.mono BA.out.size))
          obtain ⟨y, hy⟩ : ∃ y, x.data a6 c6 = y := ⟨_, rfl⟩
          have HYY := Lib.hid hy
          have D6 : Hid (Da w.heap.size wb y) := Lib.hid (by rw [← hy]; exact own_baseP ho6 BA.out.size)
          rw [hy]
          clear hy ho6 hb6 hown cx0 cx1 cx2 cx3 cx4 cx5 cx6 cx7 cx8 cx9 cx10 lx fx
          have KC : Hid (Kept (fun _ => False) wi (wb.alloc (.cells #[.int .i64 y.kind, .int .i64 y.src, .int .i64 y.dst, .int .i64 y.prio, .int .u64 y.msg, .int .i64 y.off, .int .i64 y.len, .int .i64 y.total, .int .i64 y.num, .slice y.da y.dn y.dc, .int .i64 y.path] TIt))) := Lib.hid (KB.out.alloc _)
          have HA : Hid (wb.ownsRow w.heap.size TIt 11 (.slice ao Y.length co) Y.length (Y.flatMap It.row)) := Lib.hid (own_kept HO.out KB.out fun _ _ h => h)
          have sb := BB.out.size
          have HA2 : Hid ((wb.alloc (.cells #[.int .i64 y.kind, .int .i64 y.src, .int .i64 y.dst, .int .i64 y.prio, .int .u64 y.msg, .int .i64 y.off, .int .i64 y.len, .int .i64 y.total, .int .i64 y.num, .slice y.da y.dn y.dc, .int .i64 y.path] TIt)).ownsRow w.heap.size TIt 11 (.slice ao Y.length co) Y.length (Y.flatMap It.row)) := Lib.hid (own_kept HO.out KC.out fun _ _ h => h)
          have RA2 := Lib.hid (Rd.one (k := 11) wb #[.int .i64 y.kind, .int .i64 y.src, .int .i64 y.dst, .int .i64 y.prio, .int .u64 y.msg, .int .i64 y.off, .int .i64 y.len, .int .i64 y.total, .int .i64 y.num, .slice y.da y.dn y.dc, .int .i64 y.path] TIt rfl)
          have sb2 : w.heap.size ≤ (wb.alloc (.cells #[.int .i64 y.kind, .int .i64 y.src, .int .i64 y.dst, .int .i64 y.prio, .int .u64 y.msg, .int .i64 y.off, .int .i64 y.len, .int .i64 y.total, .int .i64 y.num, .slice y.da y.dn y.dc, .int .i64 y.path] TIt)).heap.size := by rw [World.size_alloc]; omega
          go_wp2_with (at_builtin; refine wpList_appAt rfl (.tmp 40) (.tmp 43) 87 rfl info_it2 Try.underlying87 rfl (by decide) HA2.out RA2.out rfl rfl (by simp [Value.oneCell']) (by omega) sb2 ?_; intro v' w' ho' hg' hf')
          have hG := Kept.of_grown (M := Lm (.slice ao Y.length co)) hg' (fun z hz => hz)
          have hb' : Below w.heap.size (wb.alloc (.cells #[.int .i64 y.kind, .int .i64 y.src, .int .i64 y.dst, .int .i64 y.prio, .int .u64 y.msg, .int .i64 y.off, .int .i64 y.len, .int .i64 y.total, .int .i64 y.num, .slice y.da y.dn y.dc, .int .i64 y.path] TIt)) w' := grown_below HA2.out hg' sb2
          have hDT : ∀ z, Da w.heap.size (wb.alloc (.cells #[.int .i64 y.kind, .int .i64 y.src, .int .i64 y.dst, .int .i64 y.prio, .int .u64 y.msg, .int .i64 y.off, .int .i64 y.len, .int .i64 y.total, .int .i64 y.num, .slice y.da y.dn y.dc, .int .i64 y.path] TIt)) z → Da w.heap.size w' z := fun z hz => hz.keptT hG fun g hg _ => ⟨TIt, own_ty HA2.out hg, by decide⟩
          have D7 := D6.out.kept (M := fun _ => False) ((Kept.refl _ _).alloc (.cells #[.int .i64 y.kind, .int .i64 y.src, .int .i64 y.dst, .int .i64 y.prio, .int .u64 y.msg, .int .i64 y.off, .int .i64 y.len, .int .i64 y.total, .int .i64 y.num, .slice y.da y.dn y.dc, .int .i64 y.path] TIt)) (fun _ _ h => h)
          go_roundw
          case rel =>
            refine ⟨j + 1, by omega, by go_num, ⟨⟨Y ++ [y], ?_, by simpa [It.row] using ho', fun z hz => ?_⟩, ?_⟩, ?_, fun g hg => ?_⟩
            · rw [HS.out, ← List.append_assoc, ← HYY.out]
              exact HY.out.app x a6 c6
            · rcases List.mem_append.1 hz with hz | hz
              · exact hDT z ((HD.out z hz).kept KC.out (fun _ _ h => h))
              · rw [List.mem_singleton.1 hz]
                exact hDT y D7
            · exact (BB.out.alloc sb _).trans hb'
            · exact (HBX.out.trans (KC.out.mono fun _ _ h => h.elim)).trans (hG.mono fun g _ hg => HOX.out g hg)
            · rcases hf' with h | h
              · rw [h] at hg; exact HOX.out g hg
              · rw [h] at hg
                cases hg
                exact fun hh => absurd (Nat.lt_of_lt_of_le (hgv _ hh) (Nat.le_trans sX KC.out.size)) (Nat.lt_irrefl _)
          case measure => simp [intOf]; omega
        · obtain rfl : j = (p.C).length := by omega
          go_wp2_with fail
          go_ret
          refine ⟨_, rfl, ⟨⟨Y, ?_, HO.out, HD.out⟩, HB.out⟩⟩
          have h1 := HY.out
          rw [List.take_length] at h1
          exact h1

end Go.Proofs.Ytoihhidoafgoaaa
/- A port (chapter 13): a tick, for the laws of credits and lines. -/
namespace Go.Proofs.Ytoihhidoafgoaaa
open Go.RowKit

structure Jg (hv now gone : Nat) (p : Pp) : Prop where
  g : gone = min hv ((now + 3) / 4)
  len : p.C.length = hv - gone
  nums : Nums gone p.C
  pn : 0 ≤ p.now ∧ p.now ≤ now
  e : p.pc.e = 4
  n : 0 ≤ p.pc.n ∧ p.pc.n ≤ now
  x : p.pc.x = 4 * gone
theorem Jg.same {hv now gone : Nat} {p : Pp} (h : Jg hv now gone p) (L : Nat → List It) (u : Int) : Jg hv now gone { p with L := L, u := u } := ⟨h.g, h.len, h.nums, h.pn, h.e, h.n, h.x⟩
theorem takeG (b B0 : Nat) (l : Pl) (p : Pp) (hv now gone : Nat) (w : World) (h : Po b B0 l p w) (hJ : Jg hv now gone p) (hh : hv ≤ 30) (hnow : now ≤ 300) (hu : ∀ i x r, i < 8 → p.L i = x :: r → x.sz ≤ p.u) (hu2 : p.u ≤ 1099511627776) : Calls Try.prog 39 #[.pointer (some ⟨b, 0, none⟩), .int .i64 now] w fun e w' =>
    (∃ x p', e = .returned (.tuple #[boxV x, .bool true]) ∧ PoPost b B0 l p' w w' ∧ x.kind = 11 ∧ (now : Int) = 4 * gone ∧ x.num = gone ∧ p'.L = p.L ∧ p'.u = p.u ∧ Jg hv (now + 1) (gone + 1) p') ∨
    (∃ p1, TakeQ b B0 l p1 w e w' ∧ p1.L = p.L ∧ p1.u = p.u ∧ Jg hv (now + 1) gone p1) := by
  have ht : max p.now (now : Int) = now := by have := hJ.pn; omega
  have hg := hJ.g
  have hlen := hJ.len
  have hdue : p.pc.due now = decide (4 * gone ≤ now) := by
    unfold Pc.due
    rw [hJ.x, tick_now hJ.n.2 (by omega)]
    simp only [decide_eq_decide]
    omega
  rcases Nat.eq_zero_or_pos p.C.length with hC | hC
  · refine (take_q0 b B0 l p now now w h hC ht hu hu2).mono ?_
    intro e w' hq
    exact .inr ⟨_, hq, rfl, rfl, by omega, hlen, hJ.nums, by show 0 ≤ (now : Int) ∧ (now : Int) ≤ _; omega, hJ.e, by have := hJ.n; show 0 ≤ p.pc.n ∧ p.pc.n ≤ _; omega, hJ.x⟩
  · by_cases hd : 4 * gone ≤ now
    · obtain ⟨x, r, hxr⟩ : ∃ x r, p.C = x :: r := List.exists_cons_of_ne_nil (by intro hh; rw [hh] at hC; cases hC)
      have hdd : p.pc.due now = true := by rw [hdue]; exact decide_eq_true hd
      obtain ⟨hk, hn⟩ := hJ.nums 0 x (by rw [hxr]; rfl)
      refine (take_cred b B0 l p x r now now w h hxr ht hdd (by omega)).mono ?_
      rintro e w' ⟨rfl, hp⟩
      rw [go_yes hJ.n.2 (by omega) hdd] at hp
      refine .inl ⟨x, _, rfl, hp, hk, by omega, by rw [hn]; simp, rfl, rfl, ?_, ?_, fun j y hj => ?_, ?_, hJ.e, ?_, ?_⟩
      · omega
      · show r.length = _
        rw [hxr] at hlen
        rw [List.length_cons] at hlen
        omega
      · have := hJ.nums (j + 1) y (by rw [hxr]; exact hj)
        refine ⟨this.1, ?_⟩
        rw [this.2]
        push_cast
        omega
      · show 0 ≤ (now : Int) ∧ (now : Int) ≤ _
        omega
      · show 0 ≤ (now : Int) ∧ (now : Int) ≤ _
        omega
      · show Pc.x ⟨p.pc.e, now, now, true⟩ = _
        unfold Pc.x
        rw [if_pos rfl]
        show (now : Int) + p.pc.e = _
        rw [hJ.e]
        push_cast
        omega
    · have hdd : p.pc.due now = false := by rw [hdue]; exact decide_eq_false hd
      refine (take_q1 b B0 l p now now w h hC hdd ht hu hu2).mono ?_
      intro e w' hq
      have hgo := go_no hJ.n.2 (by omega) hdd
      exact .inr ⟨_, hq, rfl, rfl, by omega, hlen, hJ.nums, by show 0 ≤ (now : Int) ∧ (now : Int) ≤ _; omega, by rw [hgo]; exact hJ.e, by rw [hgo]; show 0 ≤ (now : Int) ∧ (now : Int) ≤ _; omega, by rw [hgo]; exact hJ.x⟩
theorem wfrom_pop {L : Nat → List It} {i : Nat} {x : It} {r : List It} (hi : i < 8) (h : L i = x :: r) (ha : ∀ j, i < j → j < 8 → L j = []) : wfrom L 8 = x :: wfrom (upd L i r) 8 := by
  rcases eight hi with rfl | rfl | rfl | rfl | rfl | rfl | rfl | rfl
  · simp [wfrom, upd, h, ha 1, ha 2, ha 3, ha 4, ha 5, ha 6, ha 7]
  · simp [wfrom, upd, h, ha 2, ha 3, ha 4, ha 5, ha 6, ha 7]
  · simp [wfrom, upd, h, ha 3, ha 4, ha 5, ha 6, ha 7]
  · simp [wfrom, upd, h, ha 4, ha 5, ha 6, ha 7]
  · simp [wfrom, upd, h, ha 5, ha 6, ha 7]
  · simp [wfrom, upd, h, ha 6, ha 7]
  · simp [wfrom, upd, h, ha 7]
  · simp [wfrom, upd, h]
theorem wfrom_push (L : Nat → List It) {i : Nat} (x : It) (hi : i < 8) : (wfrom (upd L i (L i ++ [x])) 8).length = (wfrom L 8).length + 1 := by
  rcases eight hi with rfl | rfl | rfl | rfl | rfl | rfl | rfl | rfl
  all_goals
    simp [wfrom, upd]
    try omega
theorem wfrom_nil {L : Nat → List It} (h : ∀ i, i < 8 → L i = []) : wfrom L 8 = [] := by
  simp [wfrom, h]
theorem wfrom_mem {L : Nat → List It} {i : Nat} {x : It} (hi : i < 8) (h : x ∈ L i) : x ∈ wfrom L 8 := by
  rcases eight hi with rfl | rfl | rfl | rfl | rfl | rfl | rfl | rfl
  all_goals simp [wfrom, h]
theorem wfrom_of {L : Nat → List It} {x : It} (h : x ∈ wfrom L 8) : ∃ i, i < 8 ∧ x ∈ L i := by
  simp [wfrom] at h
  rcases h with h | h | h | h | h | h | h | h
  · exact ⟨7, by decide, h⟩
  · exact ⟨6, by decide, h⟩
  · exact ⟨5, by decide, h⟩
  · exact ⟨4, by decide, h⟩
  · exact ⟨3, by decide, h⟩
  · exact ⟨2, by decide, h⟩
  · exact ⟨1, by decide, h⟩
  · exact ⟨0, by decide, h⟩
theorem line_le {L : Nat → List It} {i : Nat} (hi : i < 8) : (L i).length ≤ (wfrom L 8).length := by
  rcases eight hi with rfl | rfl | rfl | rfl | rfl | rfl | rfl | rfl
  all_goals
    simp [wfrom]
    try omega
/-- higher, or in the same line earlier -/
def Bef (x y : It) : Prop := y.prio < x.prio ∨ (y.prio = x.prio ∧ x.num < y.num)
theorem wfrom_sorted {L : Nat → List It} (hp : ∀ i, i < 8 → ∀ x ∈ L i, x.prio = i) (hs : ∀ i, i < 8 → (L i).Pairwise fun x y => x.num < y.num) : ∀ k, k ≤ 8 → (wfrom L k).Pairwise Bef ∧ ∀ x ∈ wfrom L k, (8 : Int) - k ≤ x.prio
  | 0, _ => ⟨List.Pairwise.nil, fun x hx => by cases hx⟩
  | k + 1, hk => by
    obtain ⟨h1, h2⟩ := wfrom_sorted hp hs k (by omega)
    rw [wfrom]
    refine ⟨List.pairwise_append.2 ⟨h1, ?_, ?_⟩, ?_⟩
    · have hpp := hp (7 - k) (by omega)
      refine (hs (7 - k) (by omega)).imp_of_mem ?_
      intro x y hx hy hxy
      exact .inr ⟨by rw [hpp x hx, hpp y hy], hxy⟩
    · intro x hx y hy
      have h3 := h2 x hx
      have h4 := hp (7 - k) (by omega) y hy
      exact .inl (by omega)
    · intro x hx
      rcases List.mem_append.1 hx with hx | hx
      · have := h2 x hx; push_cast; omega
      · have := hp (7 - k) (by omega) x hx; push_cast; omega
end Go.Proofs.Ytoihhidoafgoaaa
/- A port (chapter 13): frames trimmed, and those that find no room. -/
namespace Go.Proofs.Ytoihhidoafgoaaa
open Go.RowKit

theorem Ob.setsP {w : World} {X : Nat} {cs : Array Value} {T : TypeId} (h : Ob w X cs T) (vs : List Value) (hl : vs.length ≤ cs.size) : Ob (w.setCells X 0 vs) X (vs ++ cs.toList.drop vs.length).toArray T := by
  have hr : Rw w X cs.toList T := ⟨cs, h, rfl⟩
  have h2 := hr.sets vs 0 _ _ (by simpa using hl)
  obtain ⟨cur, h3, h4⟩ := h2
  have h5 : cur = (vs ++ cs.toList.drop vs.length).toArray := by
    apply Array.ext'
    rw [h4]
    simp
  rw [h5] at h3
  exact h3
def It.hdr (x : It) (pr : Int) : It := { x with kind := 7, prio := pr, da := none, dn := 0, dc := 0, bs := [] }
set_option maxRecDepth 100000 in
set_option maxHeartbeats 4000000 in
theorem whead (x : It) (pr : Int) (w : World) : Calls Try.prog 68 #[x.frv, .int .i64 pr] w fun e w' => e = .returned (x.hdr pr).frv ∧ Below w.heap.size w w' := by
  unfold It.frv
  go_enter Try.func68, Try.ntmps68
  go_upto_region 1 with fail
  have OX := Lib.hid ((Ob.new w #[.int .i64 x.kind, .int .i64 x.src, .int .i64 x.dst, .int .i64 x.prio, .int .u64 x.msg, .int .i64 x.off, .int .i64 x.len, .int .i64 x.total, .int .i64 x.num, .slice x.da x.dn x.dc] TFr).alloc (.cells #[.int .i64 0, .int .i64 0, .int .i64 0, .int .i64 0, .int .u64 0, .int .i64 0, .int .i64 0, .int .i64 0, .int .i64 0, .slice none 0 0] TFr))
  have OY := Lib.hid (Ob.new (w.alloc (.cells #[.int .i64 x.kind, .int .i64 x.src, .int .i64 x.dst, .int .i64 x.prio, .int .u64 x.msg, .int .i64 x.off, .int .i64 x.len, .int .i64 x.total, .int .i64 x.num, .slice x.da x.dn x.dc] TFr)) #[.int .i64 0, .int .i64 0, .int .i64 0, .int .i64 0, .int .u64 0, .int .i64 0, .int .i64 0, .int .i64 0, .int .i64 0, .slice none 0 0] TFr)
  have HB := Lib.hid (((Below.refl w.heap.size w).alloc (Nat.le_refl _) (.cells #[.int .i64 x.kind, .int .i64 x.src, .int .i64 x.dst, .int .i64 x.prio, .int .u64 x.msg, .int .i64 x.off, .int .i64 x.len, .int .i64 x.total, .int .i64 x.num, .slice x.da x.dn x.dc] TFr)).alloc (by rw [World.size_alloc]; omega) (.cells #[.int .i64 0, .int .i64 0, .int .i64 0, .int .i64 0, .int .u64 0, .int .i64 0, .int .i64 0, .int .i64 0, .int .i64 0, .slice none 0 0] TFr))
  rw [World.size_alloc] at OY
  generalize (w.alloc (.cells #[.int .i64 x.kind, .int .i64 x.src, .int .i64 x.dst, .int .i64 x.prio, .int .u64 x.msg, .int .i64 x.off, .int .i64 x.len, .int .i64 x.total, .int .i64 x.num, .slice x.da x.dn x.dc] TFr)).alloc (.cells #[.int .i64 0, .int .i64 0, .int .i64 0, .int .i64 0, .int .u64 0, .int .i64 0, .int .i64 0, .int .i64 0, .int .i64 0, .slice none 0 0] TFr) = w1 at *
  obtain ⟨X, HX⟩ : ∃ X, Hid (w.heap.size = X) := ⟨_, Lib.hid rfl⟩
  rw [HX.out] at OX OY ⊢
  obtain ⟨lx, cx, fx⟩ := OX.out.blk
  have cx0 : w1.cell? ⟨X, 0, none⟩ = some (.int .i64 x.kind) := cx 0
  have cx1 : w1.cell? ⟨X, 1, none⟩ = some (.int .i64 x.src) := cx 1
  have cx2 : w1.cell? ⟨X, 2, none⟩ = some (.int .i64 x.dst) := cx 2
  have cx3 : w1.cell? ⟨X, 3, none⟩ = some (.int .i64 x.prio) := cx 3
  have cx4 : w1.cell? ⟨X, 4, none⟩ = some (.int .u64 x.msg) := cx 4
  have cx5 : w1.cell? ⟨X, 5, none⟩ = some (.int .i64 x.off) := cx 5
  have cx6 : w1.cell? ⟨X, 6, none⟩ = some (.int .i64 x.len) := cx 6
  have cx7 : w1.cell? ⟨X, 7, none⟩ = some (.int .i64 x.total) := cx 7
  have cx8 : w1.cell? ⟨X, 8, none⟩ = some (.int .i64 x.num) := cx 8
  have cx9 : w1.cell? ⟨X, 9, none⟩ = some (.slice x.da x.dn x.dc) := cx 9
  clear cx
  have sX : w.heap.size ≤ X := Nat.le_of_eq HX.out
  go_upto_region 2 with fail
  have OX2 : Hid (Ob (((w1.setCell ⟨X, 0, none⟩ (.int .i64 7)).setCell ⟨X, 3, none⟩ (.int .i64 pr)).setCell ⟨X, 9, none⟩ (.slice none 0 0)) X #[.int .i64 (x.hdr pr).kind, .int .i64 (x.hdr pr).src, .int .i64 (x.hdr pr).dst, .int .i64 (x.hdr pr).prio, .int .u64 (x.hdr pr).msg, .int .i64 (x.hdr pr).off, .int .i64 (x.hdr pr).len, .int .i64 (x.hdr pr).total, .int .i64 (x.hdr pr).num, .slice (x.hdr pr).da (x.hdr pr).dn (x.hdr pr).dc] TFr) := Lib.hid (Ob.cast (((OX.out.set 0 _).set 3 _).set 9 _) (by rfl))
  have OY2 := Lib.hid (((OY.out.other ⟨X, 0, none⟩ (.int .i64 7) (by show X + 1 ≠ X; omega)).other ⟨X, 3, none⟩ (.int .i64 pr) (by show X + 1 ≠ X; omega)).other ⟨X, 9, none⟩ (.slice none 0 0) (by show X + 1 ≠ X; omega))
  have HB2 := Lib.hid (((HB.out.setCell (p := ⟨X, 0, none⟩) sX (.int .i64 7)).setCell (p := ⟨X, 3, none⟩) sX (.int .i64 pr)).setCell (p := ⟨X, 9, none⟩) sX (.slice none 0 0))
  clear lx fx cx0 cx1 cx2 cx3 cx4 cx5 cx6 cx7 cx8 cx9
  generalize ((w1.setCell ⟨X, 0, none⟩ (.int .i64 7)).setCell ⟨X, 3, none⟩ (.int .i64 pr)).setCell ⟨X, 9, none⟩ (.slice none 0 0) = w2 at *
  obtain ⟨y, HY⟩ : ∃ y, Hid (x.hdr pr = y) := ⟨_, Lib.hid rfl⟩
  rw [HY.out] at OX2
  obtain ⟨lx, cx, fx⟩ := OX2.out.blk
  have cx0 : w2.cell? ⟨X, 0, none⟩ = some (.int .i64 y.kind) := cx 0
  have cx1 : w2.cell? ⟨X, 1, none⟩ = some (.int .i64 y.src) := cx 1
  have cx2 : w2.cell? ⟨X, 2, none⟩ = some (.int .i64 y.dst) := cx 2
  have cx3 : w2.cell? ⟨X, 3, none⟩ = some (.int .i64 y.prio) := cx 3
  have cx4 : w2.cell? ⟨X, 4, none⟩ = some (.int .u64 y.msg) := cx 4
  have cx5 : w2.cell? ⟨X, 5, none⟩ = some (.int .i64 y.off) := cx 5
  have cx6 : w2.cell? ⟨X, 6, none⟩ = some (.int .i64 y.len) := cx 6
  have cx7 : w2.cell? ⟨X, 7, none⟩ = some (.int .i64 y.total) := cx 7
  have cx8 : w2.cell? ⟨X, 8, none⟩ = some (.int .i64 y.num) := cx 8
  have cx9 : w2.cell? ⟨X, 9, none⟩ = some (.slice y.da y.dn y.dc) := cx 9
  clear cx
  obtain ⟨ly, cy, fy⟩ := OY2.out.blk
  have cy0 : w2.cell? ⟨X + 1, 0, none⟩ = some (.int .i64 0) := cy 0
  have cy1 : w2.cell? ⟨X + 1, 1, none⟩ = some (.int .i64 0) := cy 1
  have cy2 : w2.cell? ⟨X + 1, 2, none⟩ = some (.int .i64 0) := cy 2
  have cy3 : w2.cell? ⟨X + 1, 3, none⟩ = some (.int .i64 0) := cy 3
  have cy4 : w2.cell? ⟨X + 1, 4, none⟩ = some (.int .u64 0) := cy 4
  have cy5 : w2.cell? ⟨X + 1, 5, none⟩ = some (.int .i64 0) := cy 5
  have cy6 : w2.cell? ⟨X + 1, 6, none⟩ = some (.int .i64 0) := cy 6
  have cy7 : w2.cell? ⟨X + 1, 7, none⟩ = some (.int .i64 0) := cy 7
  have cy8 : w2.cell? ⟨X + 1, 8, none⟩ = some (.int .i64 0) := cy 8
  have cy9 : w2.cell? ⟨X + 1, 9, none⟩ = some (.slice none 0 0) := cy 9
  clear cy
  go_wp2_with fail
  have hw : ((((((((((w2.setCell ⟨X + 1, 0, none⟩ (.int .i64 y.kind)).setCell ⟨X + 1, 1, none⟩ (.int .i64 y.src)).setCell ⟨X + 1, 2, none⟩ (.int .i64 y.dst)).setCell ⟨X + 1, 3, none⟩ (.int .i64 y.prio)).setCell ⟨X + 1, 4, none⟩ (.int .u64 y.msg)).setCell ⟨X + 1, 5, none⟩ (.int .i64 y.off)).setCell ⟨X + 1, 6, none⟩ (.int .i64 y.len)).setCell ⟨X + 1, 7, none⟩ (.int .i64 y.total)).setCell ⟨X + 1, 8, none⟩ (.int .i64 y.num)).setCell ⟨X + 1, 9, none⟩ (.slice y.da y.dn y.dc)) = w2.setCells (X + 1) 0 [.int .i64 y.kind, .int .i64 y.src, .int .i64 y.dst, .int .i64 y.prio, .int .u64 y.msg, .int .i64 y.off, .int .i64 y.len, .int .i64 y.total, .int .i64 y.num, .slice y.da y.dn y.dc] := rfl
  rw [hw]
  clear hw
  have OF := Lib.hid (OY2.out.sets [.int .i64 y.kind, .int .i64 y.src, .int .i64 y.dst, .int .i64 y.prio, .int .u64 y.msg, .int .i64 y.off, .int .i64 y.len, .int .i64 y.total, .int .i64 y.num, .slice y.da y.dn y.dc] rfl)
  have HF := Lib.hid (Below.sets HB2.out (X := X + 1) (by omega) HB2.out.size [.int .i64 y.kind, .int .i64 y.src, .int .i64 y.dst, .int .i64 y.prio, .int .u64 y.msg, .int .i64 y.off, .int .i64 y.len, .int .i64 y.total, .int .i64 y.num, .slice y.da y.dn y.dc])
  clear lx fx cx0 cx1 cx2 cx3 cx4 cx5 cx6 cx7 cx8 cx9 ly fy cy0 cy1 cy2 cy3 cy4 cy5 cy6 cy7 cy8 cy9
  generalize w2.setCells (X + 1) 0 [.int .i64 y.kind, .int .i64 y.src, .int .i64 y.dst, .int .i64 y.prio, .int .u64 y.msg, .int .i64 y.off, .int .i64 y.len, .int .i64 y.total, .int .i64 y.num, .slice y.da y.dn y.dc] = F at *
  obtain ⟨lf, cf, ff⟩ := OF.out.blk
  have cf0 : F.cell? ⟨X + 1, 0, none⟩ = some (.int .i64 y.kind) := cf 0
  have cf1 : F.cell? ⟨X + 1, 1, none⟩ = some (.int .i64 y.src) := cf 1
  have cf2 : F.cell? ⟨X + 1, 2, none⟩ = some (.int .i64 y.dst) := cf 2
  have cf3 : F.cell? ⟨X + 1, 3, none⟩ = some (.int .i64 y.prio) := cf 3
  have cf4 : F.cell? ⟨X + 1, 4, none⟩ = some (.int .u64 y.msg) := cf 4
  have cf5 : F.cell? ⟨X + 1, 5, none⟩ = some (.int .i64 y.off) := cf 5
  have cf6 : F.cell? ⟨X + 1, 6, none⟩ = some (.int .i64 y.len) := cf 6
  have cf7 : F.cell? ⟨X + 1, 7, none⟩ = some (.int .i64 y.total) := cf 7
  have cf8 : F.cell? ⟨X + 1, 8, none⟩ = some (.int .i64 y.num) := cf 8
  have cf9 : F.cell? ⟨X + 1, 9, none⟩ = some (.slice y.da y.dn y.dc) := cf 9
  clear cf
  exact done y.frv rfl (by simp [It.frv, results, Try.results68, go_sem, cf0, cf1, cf2, cf3, cf4, cf5, cf6, cf7, cf8, cf9]) ⟨by rw [HY.out]; rfl, HX.out ▸ HF.out⟩
set_option maxRecDepth 100000 in
set_option maxHeartbeats 4000000 in
theorem put_drop (b B0 : Nat) (l : Pl) (p : Pp) (i : Nat) (x : It) (w : World) (h : Po b B0 l p w) (hr : Rd w 1 (.slice x.da x.dn x.dc) x.dn (bcells x.bs)) (hn : x.dn ≤ 1073741824) (hk : (x.kind == 11) = false) (hxl : -1000000000 ≤ x.len ∧ x.len ≤ 1073741824) (hi : i < 8) (hp : clampI x.prio 0 7 = i) (hroom : 0 ≤ p.room ∧ p.room ≤ 1099511627776) (hu : 0 ≤ p.u ∧ p.u ≤ p.room) (hf : p.room - p.u < x.sz) (hd : (x.kind == 1) = false ∨ ((x.kind == 1) = true ∧ p.trim = false)) : Calls Try.prog 38 #[.pointer (some ⟨b, 0, none⟩), x.val] w fun e w' => e = .returned (.int .i64 3) ∧ Below w.heap.size w w' := by
  unfold It.val
  have HP := Lib.hid h
  have HR := Lib.hid hr
  have HI := Lib.hid hp
  clear h hr hp
  go_enter Try.func38, Try.ntmps38
  go_upto_region 1 with fail
  have OX := Lib.hid (Ob.new w #[.int .i64 x.kind, .int .i64 x.src, .int .i64 x.dst, .int .i64 x.prio, .int .u64 x.msg, .int .i64 x.off, .int .i64 x.len, .int .i64 x.total, .int .i64 x.num, .slice x.da x.dn x.dc, .int .i64 x.path] TIt)
  have HB := Lib.hid ((Below.refl w.heap.size w).alloc (Nat.le_refl _) (.cells #[.int .i64 x.kind, .int .i64 x.src, .int .i64 x.dst, .int .i64 x.prio, .int .u64 x.msg, .int .i64 x.off, .int .i64 x.len, .int .i64 x.total, .int .i64 x.num, .slice x.da x.dn x.dc, .int .i64 x.path] TIt))
  have P1 := Lib.hid (HP.out.below HB.out)
  have R1 := Lib.hid (HR.out.below HB.out)
  generalize w.alloc (.cells #[.int .i64 x.kind, .int .i64 x.src, .int .i64 x.dst, .int .i64 x.prio, .int .u64 x.msg, .int .i64 x.off, .int .i64 x.len, .int .i64 x.total, .int .i64 x.num, .slice x.da x.dn x.dc, .int .i64 x.path] TIt) = w1 at *
  obtain ⟨X, HX⟩ : ∃ X, Hid (w.heap.size = X) := ⟨_, Lib.hid rfl⟩
  rw [HX.out] at OX ⊢
  obtain ⟨lx, cx, fx⟩ := OX.out.blk
  have cx0 : w1.cell? ⟨X, 0, none⟩ = some (.int .i64 x.kind) := cx 0
  have cx1 : w1.cell? ⟨X, 1, none⟩ = some (.int .i64 x.src) := cx 1
  have cx2 : w1.cell? ⟨X, 2, none⟩ = some (.int .i64 x.dst) := cx 2
  have cx3 : w1.cell? ⟨X, 3, none⟩ = some (.int .i64 x.prio) := cx 3
  have cx4 : w1.cell? ⟨X, 4, none⟩ = some (.int .u64 x.msg) := cx 4
  have cx5 : w1.cell? ⟨X, 5, none⟩ = some (.int .i64 x.off) := cx 5
  have cx6 : w1.cell? ⟨X, 6, none⟩ = some (.int .i64 x.len) := cx 6
  have cx7 : w1.cell? ⟨X, 7, none⟩ = some (.int .i64 x.total) := cx 7
  have cx8 : w1.cell? ⟨X, 8, none⟩ = some (.int .i64 x.num) := cx 8
  have cx9 : w1.cell? ⟨X, 9, none⟩ = some (.slice x.da x.dn x.dc) := cx 9
  have cx10 : w1.cell? ⟨X, 10, none⟩ = some (.int .i64 x.path) := cx 10
  clear cx
  have cells := (P1.out.ob.blk).2.1
  have lb := P1.out.ob.lt
  have cb0 : w1.cell? ⟨b, 0, none⟩ = some (.pointer (some ⟨l.q, 0, none⟩)) := cells 0
  clear cells
  go_wp2_with fail
  refine wp_region_quiet_lit (by kernel_rfl) (by kernel_rfl) ?_
  try simp only [List.append]
  repeat (first | go_big_quiet_step (fail) | quiet_step (fail))
  refine wpQuiet_nil ?_
  intro W hW
  have PW : Hid (Po b B0 l p W) := by obtain ⟨n, rfl⟩ := hW; exact Lib.hid (P1.out.keptF (Kept.dn _ _ _))
  have RW : Hid (Rd W 1 (.slice x.da x.dn x.dc) x.dn (bcells x.bs)) := by obtain ⟨n, rfl⟩ := hW; exact Lib.hid R1.out.dn
  have OW : Hid (Ob W X #[.int .i64 x.kind, .int .i64 x.src, .int .i64 x.dst, .int .i64 x.prio, .int .u64 x.msg, .int .i64 x.off, .int .i64 x.len, .int .i64 x.total, .int .i64 x.num, .slice x.da x.dn x.dc, .int .i64 x.path] TIt) := by obtain ⟨n, rfl⟩ := hW; exact Lib.hid OX.out.dn
  have HBW : Hid (Below w.heap.size w W) := by obtain ⟨n, rfl⟩ := hW; exact Lib.hid (below_dn HB.out)
  clear hW lx fx cx0 cx1 cx2 cx3 cx4 cx5 cx6 cx7 cx8 cx9 cx10 lb cb0
  obtain ⟨lx, cx, fx⟩ := OW.out.blk
  have cx0 : W.cell? ⟨X, 0, none⟩ = some (.int .i64 x.kind) := cx 0
  have cx1 : W.cell? ⟨X, 1, none⟩ = some (.int .i64 x.src) := cx 1
  have cx2 : W.cell? ⟨X, 2, none⟩ = some (.int .i64 x.dst) := cx 2
  have cx3 : W.cell? ⟨X, 3, none⟩ = some (.int .i64 x.prio) := cx 3
  have cx4 : W.cell? ⟨X, 4, none⟩ = some (.int .u64 x.msg) := cx 4
  have cx5 : W.cell? ⟨X, 5, none⟩ = some (.int .i64 x.off) := cx 5
  have cx6 : W.cell? ⟨X, 6, none⟩ = some (.int .i64 x.len) := cx 6
  have cx7 : W.cell? ⟨X, 7, none⟩ = some (.int .i64 x.total) := cx 7
  have cx8 : W.cell? ⟨X, 8, none⟩ = some (.int .i64 x.num) := cx 8
  have cx9 : W.cell? ⟨X, 9, none⟩ = some (.slice x.da x.dn x.dc) := cx 9
  have cx10 : W.cell? ⟨X, 10, none⟩ = some (.int .i64 x.path) := cx 10
  clear cx
  have cells := (PW.out.ob.blk).2.1
  have lb := PW.out.ob.lt
  have cb0 : W.cell? ⟨b, 0, none⟩ = some (.pointer (some ⟨l.q, 0, none⟩)) := cells 0
  clear cells
  go_wp2_with fail
  refine wp_run (M := (fun _ => False)) (stages [([true, true, true, true, true, true, true, false, true, false, false, false, false], 7), ([false, false, false, false, false, false, false, false, false, false, false, false, false], 9), ([false, false, false, false, false, false, false, false, false, false, false, false, false], 10)] [false, false, false, false, false, false, false, false, false, false, false, true, true]) (by kernel_rfl) (by kernel_rfl) ?_
  refine run_stage rfl ?_
  simp only [pickAt]
  repeat (go_big_quiet_step (fail))
  refine wpQuiet_nil ?_
  refine run_want rfl ?_
  intro A hA
  go_simp
  refine (clamp_any _ _ _ _).mono ?_
  rintro e w' ⟨rfl, rfl⟩
  rw [HI.out]
  refine hA _ _ ((Kept.refl _ _)) ?_
  try simp only [Act.put, List.setIfInBounds_toArray, List.set_cons_zero, List.set_cons_succ]
  clear A hA
  refine run_stage rfl ?_
  simp only [pickAt]
  repeat (go_big_quiet_step (fail))
  refine wpQuiet_nil ?_
  refine run_want rfl ?_
  intro A hA
  go_simp
  have hown := pown x x.bs W.drew (RW.out.kept (Kept.drew (fun _ => False) W) (fun _ _ _ _ h => h)) hn
  unfold It.val at hown
  refine hown.mono ?_
  rintro e w6 ⟨a6, c6, rfl, ho6, hb6⟩
  clear hown
  obtain ⟨y, hy⟩ : ∃ y, x.data a6 c6 = y := ⟨_, rfl⟩
  have hyl : -1000000000 ≤ y.len ∧ y.len ≤ 1073741824 := by rw [← hy]; exact hxl
  have hys : y.sz = x.sz := by rw [← hy]; rfl
  rw [hy]
  clear hy
  have P6 := Lib.hid (PW.out.keptF ((Kept.drew _ W).trans (Kept.of_below hb6)))
  have OX6 := Lib.hid (OW.out.kept ((Kept.drew (fun _ => False) W).trans (Kept.of_below hb6)) (fun h => h))
  have B6 := Lib.hid ((below_dn (n := 1) HBW.out).trans (hb6.mono HBW.out.size))
  refine hA _ _ (Kept.of_below hb6) ?_
  try simp only [Act.put, List.setIfInBounds_toArray, List.set_cons_zero, List.set_cons_succ]
  clear A hA
  clear hb6 ho6
  refine run_stage rfl ?_
  simp only [pickAt]
  repeat (go_big_quiet_step (fail))
  refine wpQuiet_nil ?_
  refine run_want rfl ?_
  intro A hA
  go_simp
  refine (push_full l.q B0 l.V p.room p.u p.L i y _ P6.out.qu hyl hi hroom hu (by rw [hys]; exact hf)).mono ?_
  rintro e w7 ⟨rfl, hb7⟩
  have P7 := Lib.hid (P6.out.below hb7)
  have OX7 := Lib.hid (OX6.out.below hb7)
  have B7 := Lib.hid (B6.out.trans (hb7.mono B6.out.size))
  refine hA _ _ (Kept.of_below hb7) ?_
  try simp only [Act.put, List.setIfInBounds_toArray, List.set_cons_zero, List.set_cons_succ]
  clear A hA
  clear hb7 lx fx cx0 cx1 cx2 cx3 cx4 cx5 cx6 cx7 cx8 cx9 cx10 lb cb0
  refine run_last ?_
  simp only [pickAt]
  repeat (go_big_quiet_step (fail))
  refine wpQuiet_nil ?_
  obtain ⟨lx, cx, fx⟩ := OX7.out.blk
  have cx0 : w7.cell? ⟨X, 0, none⟩ = some (.int .i64 x.kind) := cx 0
  have cx1 : w7.cell? ⟨X, 1, none⟩ = some (.int .i64 x.src) := cx 1
  have cx2 : w7.cell? ⟨X, 2, none⟩ = some (.int .i64 x.dst) := cx 2
  have cx3 : w7.cell? ⟨X, 3, none⟩ = some (.int .i64 x.prio) := cx 3
  have cx4 : w7.cell? ⟨X, 4, none⟩ = some (.int .u64 x.msg) := cx 4
  have cx5 : w7.cell? ⟨X, 5, none⟩ = some (.int .i64 x.off) := cx 5
  have cx6 : w7.cell? ⟨X, 6, none⟩ = some (.int .i64 x.len) := cx 6
  have cx7 : w7.cell? ⟨X, 7, none⟩ = some (.int .i64 x.total) := cx 7
  have cx8 : w7.cell? ⟨X, 8, none⟩ = some (.int .i64 x.num) := cx 8
  have cx9 : w7.cell? ⟨X, 9, none⟩ = some (.slice x.da x.dn x.dc) := cx 9
  have cx10 : w7.cell? ⟨X, 10, none⟩ = some (.int .i64 x.path) := cx 10
  clear cx
  have cells := (P7.out.ob.blk).2.1
  have lb := P7.out.ob.lt
  have cb0 : w7.cell? ⟨b, 0, none⟩ = some (.pointer (some ⟨l.q, 0, none⟩)) := cells 0
  have cb3 : w7.cell? ⟨b, 3, none⟩ = some (.bool p.trim) := cells 3
  clear cells
  have hT := Lib.hid hd
  clear hd
  rcases hT.out with hk1 | ⟨hk1, ht⟩
  · have hk2 : ¬ x.kind = 1 := beq_eq_false_iff_ne.1 hk1
    clear cb3
    go_wp2_with fail
    go_ret
    exact ⟨rfl, HX.out ▸ B7.out⟩
  · rw [ht] at cb3
    go_wp2_with fail
    all_goals (go_ret; exact ⟨rfl, HX.out ▸ B7.out⟩)
end Go.Proofs.Ytoihhidoafgoaaa
/- A port (chapter 13): frames of data trimmed. -/
namespace Go.Proofs.Ytoihhidoafgoaaa
open Go.RowKit

def PutT (b B0 : Nat) (l : Pl) (p : Pp) (x : It) (w : World) (e : Ending) (w' : World) : Prop := e = .returned (.int .i64 2) ∧ PoPost b B0 l { p with u := p.u + 26, L := upd p.L 7 (p.L 7 ++ [x.hdr 7]) } w w'
set_option maxRecDepth 100000 in
set_option maxHeartbeats 4000000 in
theorem put_trim (b B0 : Nat) (l : Pl) (p : Pp) (i : Nat) (x : It) (w : World) (h : Po b B0 l p w) (hr : Rd w 1 (.slice x.da x.dn x.dc) x.dn (bcells x.bs)) (hn : x.dn ≤ 1073741824) (hk : (x.kind == 11) = false) (hxl : -1000000000 ≤ x.len ∧ x.len ≤ 1073741824) (hi : i < 8) (hp : clampI x.prio 0 7 = i) (hroom : 0 ≤ p.room ∧ p.room ≤ 1099511627776) (hu : 0 ≤ p.u ∧ p.u ≤ p.room) (hf : p.room - p.u < x.sz) (hk1 : x.kind = 1) (ht : p.trim = true) (hf2 : 26 ≤ p.room - p.u) (hlen : (p.L 7).length ≤ 1000000) : Calls Try.prog 38 #[.pointer (some ⟨b, 0, none⟩), x.val] w (PutT b B0 l p x w) := by
  have HK1 := Lib.hid hk1
  clear hk1
  unfold It.val
  have HP := Lib.hid h
  have HR := Lib.hid hr
  have HI := Lib.hid hp
  clear h hr hp
  go_enter Try.func38, Try.ntmps38
  go_upto_region 1 with fail
  have OX := Lib.hid (Ob.new w #[.int .i64 x.kind, .int .i64 x.src, .int .i64 x.dst, .int .i64 x.prio, .int .u64 x.msg, .int .i64 x.off, .int .i64 x.len, .int .i64 x.total, .int .i64 x.num, .slice x.da x.dn x.dc, .int .i64 x.path] TIt)
  have HB := Lib.hid ((Below.refl w.heap.size w).alloc (Nat.le_refl _) (.cells #[.int .i64 x.kind, .int .i64 x.src, .int .i64 x.dst, .int .i64 x.prio, .int .u64 x.msg, .int .i64 x.off, .int .i64 x.len, .int .i64 x.total, .int .i64 x.num, .slice x.da x.dn x.dc, .int .i64 x.path] TIt))
  have P1 := Lib.hid (HP.out.below HB.out)
  have R1 := Lib.hid (HR.out.below HB.out)
  generalize w.alloc (.cells #[.int .i64 x.kind, .int .i64 x.src, .int .i64 x.dst, .int .i64 x.prio, .int .u64 x.msg, .int .i64 x.off, .int .i64 x.len, .int .i64 x.total, .int .i64 x.num, .slice x.da x.dn x.dc, .int .i64 x.path] TIt) = w1 at *
  obtain ⟨X, HX⟩ : ∃ X, Hid (w.heap.size = X) := ⟨_, Lib.hid rfl⟩
  rw [HX.out] at OX ⊢
  obtain ⟨lx, cx, fx⟩ := OX.out.blk
  have cx0 : w1.cell? ⟨X, 0, none⟩ = some (.int .i64 x.kind) := cx 0
  have cx1 : w1.cell? ⟨X, 1, none⟩ = some (.int .i64 x.src) := cx 1
  have cx2 : w1.cell? ⟨X, 2, none⟩ = some (.int .i64 x.dst) := cx 2
  have cx3 : w1.cell? ⟨X, 3, none⟩ = some (.int .i64 x.prio) := cx 3
  have cx4 : w1.cell? ⟨X, 4, none⟩ = some (.int .u64 x.msg) := cx 4
  have cx5 : w1.cell? ⟨X, 5, none⟩ = some (.int .i64 x.off) := cx 5
  have cx6 : w1.cell? ⟨X, 6, none⟩ = some (.int .i64 x.len) := cx 6
  have cx7 : w1.cell? ⟨X, 7, none⟩ = some (.int .i64 x.total) := cx 7
  have cx8 : w1.cell? ⟨X, 8, none⟩ = some (.int .i64 x.num) := cx 8
  have cx9 : w1.cell? ⟨X, 9, none⟩ = some (.slice x.da x.dn x.dc) := cx 9
  have cx10 : w1.cell? ⟨X, 10, none⟩ = some (.int .i64 x.path) := cx 10
  clear cx
  have cells := (P1.out.ob.blk).2.1
  have lb := P1.out.ob.lt
  have cb0 : w1.cell? ⟨b, 0, none⟩ = some (.pointer (some ⟨l.q, 0, none⟩)) := cells 0
  clear cells
  go_wp2_with fail
  refine wp_region_quiet_lit (by kernel_rfl) (by kernel_rfl) ?_
  try simp only [List.append]
  repeat (first | go_big_quiet_step (fail) | quiet_step (fail))
  refine wpQuiet_nil ?_
  intro W hW
  have PW : Hid (Po b B0 l p W) := by obtain ⟨n, rfl⟩ := hW; exact Lib.hid (P1.out.keptF (Kept.dn _ _ _))
  have RW : Hid (Rd W 1 (.slice x.da x.dn x.dc) x.dn (bcells x.bs)) := by obtain ⟨n, rfl⟩ := hW; exact Lib.hid R1.out.dn
  have OW : Hid (Ob W X #[.int .i64 x.kind, .int .i64 x.src, .int .i64 x.dst, .int .i64 x.prio, .int .u64 x.msg, .int .i64 x.off, .int .i64 x.len, .int .i64 x.total, .int .i64 x.num, .slice x.da x.dn x.dc, .int .i64 x.path] TIt) := by obtain ⟨n, rfl⟩ := hW; exact Lib.hid OX.out.dn
  have HBW : Hid (Below w.heap.size w W) := by obtain ⟨n, rfl⟩ := hW; exact Lib.hid (below_dn HB.out)
  clear hW lx fx cx0 cx1 cx2 cx3 cx4 cx5 cx6 cx7 cx8 cx9 cx10 lb cb0
  obtain ⟨lx, cx, fx⟩ := OW.out.blk
  have cx0 : W.cell? ⟨X, 0, none⟩ = some (.int .i64 x.kind) := cx 0
  have cx1 : W.cell? ⟨X, 1, none⟩ = some (.int .i64 x.src) := cx 1
  have cx2 : W.cell? ⟨X, 2, none⟩ = some (.int .i64 x.dst) := cx 2
  have cx3 : W.cell? ⟨X, 3, none⟩ = some (.int .i64 x.prio) := cx 3
  have cx4 : W.cell? ⟨X, 4, none⟩ = some (.int .u64 x.msg) := cx 4
  have cx5 : W.cell? ⟨X, 5, none⟩ = some (.int .i64 x.off) := cx 5
  have cx6 : W.cell? ⟨X, 6, none⟩ = some (.int .i64 x.len) := cx 6
  have cx7 : W.cell? ⟨X, 7, none⟩ = some (.int .i64 x.total) := cx 7
  have cx8 : W.cell? ⟨X, 8, none⟩ = some (.int .i64 x.num) := cx 8
  have cx9 : W.cell? ⟨X, 9, none⟩ = some (.slice x.da x.dn x.dc) := cx 9
  have cx10 : W.cell? ⟨X, 10, none⟩ = some (.int .i64 x.path) := cx 10
  clear cx
  have cells := (PW.out.ob.blk).2.1
  have lb := PW.out.ob.lt
  have cb0 : W.cell? ⟨b, 0, none⟩ = some (.pointer (some ⟨l.q, 0, none⟩)) := cells 0
  clear cells
  go_wp2_with fail
  refine wp_run (M := (fun _ => False)) (stages [([true, true, true, true, true, true, true, false, true, false, false, false, false], 7), ([false, false, false, false, false, false, false, false, false, false, false, false, false], 9), ([false, false, false, false, false, false, false, false, false, false, false, false, false], 10)] [false, false, false, false, false, false, false, false, false, false, false, true, true]) (by kernel_rfl) (by kernel_rfl) ?_
  refine run_stage rfl ?_
  simp only [pickAt]
  repeat (go_big_quiet_step (fail))
  refine wpQuiet_nil ?_
  refine run_want rfl ?_
  intro A hA
  go_simp
  refine (clamp_any _ _ _ _).mono ?_
  rintro e w' ⟨rfl, rfl⟩
  rw [HI.out]
  refine hA _ _ ((Kept.refl _ _)) ?_
  try simp only [Act.put, List.setIfInBounds_toArray, List.set_cons_zero, List.set_cons_succ]
  clear A hA
  refine run_stage rfl ?_
  simp only [pickAt]
  repeat (go_big_quiet_step (fail))
  refine wpQuiet_nil ?_
  refine run_want rfl ?_
  intro A hA
  go_simp
  have hown := pown x x.bs W.drew (RW.out.kept (Kept.drew (fun _ => False) W) (fun _ _ _ _ h => h)) hn
  unfold It.val at hown
  refine hown.mono ?_
  rintro e w6 ⟨a6, c6, rfl, ho6, hb6⟩
  clear hown
  obtain ⟨y, hy⟩ : ∃ y, x.data a6 c6 = y := ⟨_, rfl⟩
  have hyl : -1000000000 ≤ y.len ∧ y.len ≤ 1073741824 := by rw [← hy]; exact hxl
  have hys : y.sz = x.sz := by rw [← hy]; rfl
  rw [hy]
  clear hy
  have P6 := Lib.hid (PW.out.keptF ((Kept.drew _ W).trans (Kept.of_below hb6)))
  have OX6 := Lib.hid (OW.out.kept ((Kept.drew (fun _ => False) W).trans (Kept.of_below hb6)) (fun h => h))
  have B6 := Lib.hid ((below_dn (n := 1) HBW.out).trans (hb6.mono HBW.out.size))
  refine hA _ _ (Kept.of_below hb6) ?_
  try simp only [Act.put, List.setIfInBounds_toArray, List.set_cons_zero, List.set_cons_succ]
  clear A hA
  clear hb6 ho6
  refine run_stage rfl ?_
  simp only [pickAt]
  repeat (go_big_quiet_step (fail))
  refine wpQuiet_nil ?_
  refine run_want rfl ?_
  intro A hA
  go_simp
  refine (push_full l.q B0 l.V p.room p.u p.L i y _ P6.out.qu hyl hi hroom hu (by rw [hys]; exact hf)).mono ?_
  rintro e w7 ⟨rfl, hb7⟩
  have P7 := Lib.hid (P6.out.below hb7)
  have OX7 := Lib.hid (OX6.out.below hb7)
  have B7 := Lib.hid (B6.out.trans (hb7.mono B6.out.size))
  refine hA _ _ (Kept.of_below hb7) ?_
  try simp only [Act.put, List.setIfInBounds_toArray, List.set_cons_zero, List.set_cons_succ]
  clear A hA
  clear hb7 lx fx cx0 cx1 cx2 cx3 cx4 cx5 cx6 cx7 cx8 cx9 cx10 lb cb0
  refine run_last ?_
  simp only [pickAt]
  repeat (go_big_quiet_step (fail))
  refine wpQuiet_nil ?_
  obtain ⟨lx, cx, fx⟩ := OX7.out.blk
  have cx0 : w7.cell? ⟨X, 0, none⟩ = some (.int .i64 x.kind) := cx 0
  have cx1 : w7.cell? ⟨X, 1, none⟩ = some (.int .i64 x.src) := cx 1
  have cx2 : w7.cell? ⟨X, 2, none⟩ = some (.int .i64 x.dst) := cx 2
  have cx3 : w7.cell? ⟨X, 3, none⟩ = some (.int .i64 x.prio) := cx 3
  have cx4 : w7.cell? ⟨X, 4, none⟩ = some (.int .u64 x.msg) := cx 4
  have cx5 : w7.cell? ⟨X, 5, none⟩ = some (.int .i64 x.off) := cx 5
  have cx6 : w7.cell? ⟨X, 6, none⟩ = some (.int .i64 x.len) := cx 6
  have cx7 : w7.cell? ⟨X, 7, none⟩ = some (.int .i64 x.total) := cx 7
  have cx8 : w7.cell? ⟨X, 8, none⟩ = some (.int .i64 x.num) := cx 8
  have cx9 : w7.cell? ⟨X, 9, none⟩ = some (.slice x.da x.dn x.dc) := cx 9
  have cx10 : w7.cell? ⟨X, 10, none⟩ = some (.int .i64 x.path) := cx 10
  clear cx
  have cells := (P7.out.ob.blk).2.1
  have lb := P7.out.ob.lt
  have cb0 : w7.cell? ⟨b, 0, none⟩ = some (.pointer (some ⟨l.q, 0, none⟩)) := cells 0
  have cb3 : w7.cell? ⟨b, 3, none⟩ = some (.bool p.trim) := cells 3
  clear cells
  rw [ht] at cb3
  have hk2 : (x.kind == 1) = true := beq_iff_eq.2 HK1.out
  have hk3 := HK1.out
  go_upto_region 12 with fail
  clear hk2 hk3 cb3
  have hwh := whead x 7 w7
  unfold It.frv at hwh
  go_wp2_with fail
  refine (hwh).mono ?_
  rintro e w8 ⟨rfl, hb8⟩
  have P8 := Lib.hid (P7.out.below hb8)
  have OX8 := Lib.hid (OX7.out.below hb8)
  have B8 := Lib.hid (B7.out.trans (hb8.mono B7.out.size))
  clear hb8 hwh lx fx cx0 cx1 cx2 cx3 cx4 cx5 cx6 cx7 cx8 cx9 cx10 lb cb0
  obtain ⟨y, HY⟩ : ∃ y, Hid (x.hdr 7 = y) := ⟨_, Lib.hid rfl⟩
  have HYP : Hid (y.path = x.path) := Lib.hid (by rw [← HY.out]; rfl)
  rw [HY.out]
  obtain ⟨lx, cx, fx⟩ := OX8.out.blk
  have cx0 : w8.cell? ⟨X, 0, none⟩ = some (.int .i64 x.kind) := cx 0
  have cx1 : w8.cell? ⟨X, 1, none⟩ = some (.int .i64 x.src) := cx 1
  have cx2 : w8.cell? ⟨X, 2, none⟩ = some (.int .i64 x.dst) := cx 2
  have cx3 : w8.cell? ⟨X, 3, none⟩ = some (.int .i64 x.prio) := cx 3
  have cx4 : w8.cell? ⟨X, 4, none⟩ = some (.int .u64 x.msg) := cx 4
  have cx5 : w8.cell? ⟨X, 5, none⟩ = some (.int .i64 x.off) := cx 5
  have cx6 : w8.cell? ⟨X, 6, none⟩ = some (.int .i64 x.len) := cx 6
  have cx7 : w8.cell? ⟨X, 7, none⟩ = some (.int .i64 x.total) := cx 7
  have cx8 : w8.cell? ⟨X, 8, none⟩ = some (.int .i64 x.num) := cx 8
  have cx9 : w8.cell? ⟨X, 9, none⟩ = some (.slice x.da x.dn x.dc) := cx 9
  have cx10 : w8.cell? ⟨X, 10, none⟩ = some (.int .i64 x.path) := cx 10
  clear cx
  go_upto_region 13 with fail
  have hw : ((((((((((w8.setCell ⟨X, 0, none⟩ (.int .i64 y.kind)).setCell ⟨X, 1, none⟩ (.int .i64 y.src)).setCell ⟨X, 2, none⟩ (.int .i64 y.dst)).setCell ⟨X, 3, none⟩ (.int .i64 y.prio)).setCell ⟨X, 4, none⟩ (.int .u64 y.msg)).setCell ⟨X, 5, none⟩ (.int .i64 y.off)).setCell ⟨X, 6, none⟩ (.int .i64 y.len)).setCell ⟨X, 7, none⟩ (.int .i64 y.total)).setCell ⟨X, 8, none⟩ (.int .i64 y.num)).setCell ⟨X, 9, none⟩ (.slice y.da y.dn y.dc)) = w8.setCells X 0 [.int .i64 y.kind, .int .i64 y.src, .int .i64 y.dst, .int .i64 y.prio, .int .u64 y.msg, .int .i64 y.off, .int .i64 y.len, .int .i64 y.total, .int .i64 y.num, .slice y.da y.dn y.dc] := rfl
  rw [hw]
  clear hw lx fx cx0 cx1 cx2 cx3 cx4 cx5 cx6 cx7 cx8 cx9 cx10
  have OX9 : Hid (Ob (w8.setCells X 0 [.int .i64 y.kind, .int .i64 y.src, .int .i64 y.dst, .int .i64 y.prio, .int .u64 y.msg, .int .i64 y.off, .int .i64 y.len, .int .i64 y.total, .int .i64 y.num, .slice y.da y.dn y.dc]) X #[.int .i64 y.kind, .int .i64 y.src, .int .i64 y.dst, .int .i64 y.prio, .int .u64 y.msg, .int .i64 y.off, .int .i64 y.len, .int .i64 y.total, .int .i64 y.num, .slice y.da y.dn y.dc, .int .i64 y.path] TIt) := Lib.hid (by
    rw [HYP.out]
    exact OX8.out.setsP [.int .i64 y.kind, .int .i64 y.src, .int .i64 y.dst, .int .i64 y.prio, .int .u64 y.msg, .int .i64 y.off, .int .i64 y.len, .int .i64 y.total, .int .i64 y.num, .slice y.da y.dn y.dc] (by show 10 ≤ 11; decide))
  have hvX : l.v.ownBlock ≠ some X := fun hh => by
    have h1 := ((HP.out.own).lt X hh).2
    have h2 := HX.out
    omega
  have P9 := Lib.hid (P8.out.local ((Kept.refl (Only X) w8).setsO (X := X) (show X = X from rfl) [.int .i64 y.kind, .int .i64 y.src, .int .i64 y.dst, .int .i64 y.prio, .int .u64 y.msg, .int .i64 y.off, .int .i64 y.len, .int .i64 y.total, .int .i64 y.num, .slice y.da y.dn y.dc]) OX8.out.ty hvX)
  have B9 := Lib.hid (Below.sets B8.out (X := X) (Nat.le_of_eq HX.out) B8.out.size [.int .i64 y.kind, .int .i64 y.src, .int .i64 y.dst, .int .i64 y.prio, .int .u64 y.msg, .int .i64 y.off, .int .i64 y.len, .int .i64 y.total, .int .i64 y.num, .slice y.da y.dn y.dc])
  generalize w8.setCells X 0 [.int .i64 y.kind, .int .i64 y.src, .int .i64 y.dst, .int .i64 y.prio, .int .u64 y.msg, .int .i64 y.off, .int .i64 y.len, .int .i64 y.total, .int .i64 y.num, .slice y.da y.dn y.dc] = w9 at *
  have hyl : -1000000000 ≤ y.len ∧ y.len ≤ 1073741824 := by rw [← HY.out]; exact hxl
  have hys : y.sz = 26 := by rw [← HY.out]; rfl
  obtain ⟨lx, cx, fx⟩ := OX9.out.blk
  have cx0 : w9.cell? ⟨X, 0, none⟩ = some (.int .i64 y.kind) := cx 0
  have cx1 : w9.cell? ⟨X, 1, none⟩ = some (.int .i64 y.src) := cx 1
  have cx2 : w9.cell? ⟨X, 2, none⟩ = some (.int .i64 y.dst) := cx 2
  have cx3 : w9.cell? ⟨X, 3, none⟩ = some (.int .i64 y.prio) := cx 3
  have cx4 : w9.cell? ⟨X, 4, none⟩ = some (.int .u64 y.msg) := cx 4
  have cx5 : w9.cell? ⟨X, 5, none⟩ = some (.int .i64 y.off) := cx 5
  have cx6 : w9.cell? ⟨X, 6, none⟩ = some (.int .i64 y.len) := cx 6
  have cx7 : w9.cell? ⟨X, 7, none⟩ = some (.int .i64 y.total) := cx 7
  have cx8 : w9.cell? ⟨X, 8, none⟩ = some (.int .i64 y.num) := cx 8
  have cx9 : w9.cell? ⟨X, 9, none⟩ = some (.slice y.da y.dn y.dc) := cx 9
  have cx10 : w9.cell? ⟨X, 10, none⟩ = some (.int .i64 y.path) := cx 10
  clear cx
  have cells := (P9.out.ob.blk).2.1
  have lb := P9.out.ob.lt
  have cb0 : w9.cell? ⟨b, 0, none⟩ = some (.pointer (some ⟨l.q, 0, none⟩)) := cells 0
  clear cells
  have hbM : ¬ QM l.q l.V b := fun hh => by
    rcases P9.out.qu.ty hh with h3 | h3
    · exact absurd (h3.one P9.out.ob.ty) (by decide)
    · exact absurd (h3.one P9.out.ob.ty) (by decide)
  have hXM : ¬ QM l.q l.V X := fun hh => by
    rcases P9.out.qu.ty hh with h3 | h3
    · exact absurd (h3.one OX9.out.ty) (by decide)
    · exact absurd (h3.one OX9.out.ty) (by decide)
  have DY : ∀ W : World, Da B0 W y := fun W => by rw [← HY.out]; exact World.ownsRow_nil _ _ _ _
  refine wp_run (M := (QM l.q l.V)) (stages [([true, true, true, true, true, false, false], 5)] [false, false, false, false, false, false, true]) (by kernel_rfl) (by kernel_rfl) ?_
  refine run_stage rfl ?_
  simp only [pickAt]
  repeat (go_big_quiet_step (fail))
  refine wpQuiet_nil ?_
  refine run_want rfl ?_
  intro A hA
  go_simp
  refine (push_yes l.q B0 l.V p.room p.u p.L 7 y _ (P9.out.keptF (Kept.drew _ _)).qu hyl (by decide) hroom hu (by rw [hys]; exact hf2) hlen).mono ?_
  rintro e w10 ⟨rfl, V10, Q10, K10, F10⟩
  have P10 := Lib.hid ((P9.out.keptF (Kept.drew _ _)).queue K10 Q10 F10 (fun z j hj hz => by
    by_cases hji : j = 7
    · subst hji
      rw [upd_same] at hz
      rcases List.mem_append.1 hz with hz | hz
      · exact .inl (.inr ⟨7, hj, hz⟩)
      · rw [List.mem_singleton.1 hz]
        exact .inr (DY _)
    · rw [upd_other _ _ hji] at hz
      exact .inl (.inr ⟨j, hj, hz⟩)))
  refine hA _ _ (K10) ?_
  try simp only [Act.put, List.setIfInBounds_toArray, List.set_cons_zero, List.set_cons_succ]
  clear A hA
  clear Q10 K10 F10
  refine run_last ?_
  simp only [pickAt]
  repeat (go_big_quiet_step (fail))
  refine wpQuiet_nil ?_
  go_wp2_with fail
  go_ret
  refine ⟨rfl, ?_⟩
  have := P10.out.before (below_dn (n := 1) B9.out)
  rw [hys] at this
  rw [HY.out]
  exact this
set_option maxRecDepth 100000 in
set_option maxHeartbeats 4000000 in
theorem put_trimno (b B0 : Nat) (l : Pl) (p : Pp) (i : Nat) (x : It) (w : World) (h : Po b B0 l p w) (hr : Rd w 1 (.slice x.da x.dn x.dc) x.dn (bcells x.bs)) (hn : x.dn ≤ 1073741824) (hk : (x.kind == 11) = false) (hxl : -1000000000 ≤ x.len ∧ x.len ≤ 1073741824) (hi : i < 8) (hp : clampI x.prio 0 7 = i) (hroom : 0 ≤ p.room ∧ p.room ≤ 1099511627776) (hu : 0 ≤ p.u ∧ p.u ≤ p.room) (hf : p.room - p.u < x.sz) (hk1 : x.kind = 1) (ht : p.trim = true) (hf2 : p.room - p.u < 26) : Calls Try.prog 38 #[.pointer (some ⟨b, 0, none⟩), x.val] w fun e w' => e = .returned (.int .i64 3) ∧ Below w.heap.size w w' := by
  have HK1 := Lib.hid hk1
  clear hk1
  unfold It.val
  have HP := Lib.hid h
  have HR := Lib.hid hr
  have HI := Lib.hid hp
  clear h hr hp
  go_enter Try.func38, Try.ntmps38
  go_upto_region 1 with fail
  have OX := Lib.hid (Ob.new w #[.int .i64 x.kind, .int .i64 x.src, .int .i64 x.dst, .int .i64 x.prio, .int .u64 x.msg, .int .i64 x.off, .int .i64 x.len, .int .i64 x.total, .int .i64 x.num, .slice x.da x.dn x.dc, .int .i64 x.path] TIt)
  have HB := Lib.hid ((Below.refl w.heap.size w).alloc (Nat.le_refl _) (.cells #[.int .i64 x.kind, .int .i64 x.src, .int .i64 x.dst, .int .i64 x.prio, .int .u64 x.msg, .int .i64 x.off, .int .i64 x.len, .int .i64 x.total, .int .i64 x.num, .slice x.da x.dn x.dc, .int .i64 x.path] TIt))
  have P1 := Lib.hid (HP.out.below HB.out)
  have R1 := Lib.hid (HR.out.below HB.out)
  generalize w.alloc (.cells #[.int .i64 x.kind, .int .i64 x.src, .int .i64 x.dst, .int .i64 x.prio, .int .u64 x.msg, .int .i64 x.off, .int .i64 x.len, .int .i64 x.total, .int .i64 x.num, .slice x.da x.dn x.dc, .int .i64 x.path] TIt) = w1 at *
  obtain ⟨X, HX⟩ : ∃ X, Hid (w.heap.size = X) := ⟨_, Lib.hid rfl⟩
  rw [HX.out] at OX ⊢
  obtain ⟨lx, cx, fx⟩ := OX.out.blk
  have cx0 : w1.cell? ⟨X, 0, none⟩ = some (.int .i64 x.kind) := cx 0
  have cx1 : w1.cell? ⟨X, 1, none⟩ = some (.int .i64 x.src) := cx 1
  have cx2 : w1.cell? ⟨X, 2, none⟩ = some (.int .i64 x.dst) := cx 2
  have cx3 : w1.cell? ⟨X, 3, none⟩ = some (.int .i64 x.prio) := cx 3
  have cx4 : w1.cell? ⟨X, 4, none⟩ = some (.int .u64 x.msg) := cx 4
  have cx5 : w1.cell? ⟨X, 5, none⟩ = some (.int .i64 x.off) := cx 5
  have cx6 : w1.cell? ⟨X, 6, none⟩ = some (.int .i64 x.len) := cx 6
  have cx7 : w1.cell? ⟨X, 7, none⟩ = some (.int .i64 x.total) := cx 7
  have cx8 : w1.cell? ⟨X, 8, none⟩ = some (.int .i64 x.num) := cx 8
  have cx9 : w1.cell? ⟨X, 9, none⟩ = some (.slice x.da x.dn x.dc) := cx 9
  have cx10 : w1.cell? ⟨X, 10, none⟩ = some (.int .i64 x.path) := cx 10
  clear cx
  have cells := (P1.out.ob.blk).2.1
  have lb := P1.out.ob.lt
  have cb0 : w1.cell? ⟨b, 0, none⟩ = some (.pointer (some ⟨l.q, 0, none⟩)) := cells 0
  clear cells
  go_wp2_with fail
  refine wp_region_quiet_lit (by kernel_rfl) (by kernel_rfl) ?_
  try simp only [List.append]
  repeat (first | go_big_quiet_step (fail) | quiet_step (fail))
  refine wpQuiet_nil ?_
  intro W hW
  have PW : Hid (Po b B0 l p W) := by obtain ⟨n, rfl⟩ := hW; exact Lib.hid (P1.out.keptF (Kept.dn _ _ _))
  have RW : Hid (Rd W 1 (.slice x.da x.dn x.dc) x.dn (bcells x.bs)) := by obtain ⟨n, rfl⟩ := hW; exact Lib.hid R1.out.dn
  have OW : Hid (Ob W X #[.int .i64 x.kind, .int .i64 x.src, .int .i64 x.dst, .int .i64 x.prio, .int .u64 x.msg, .int .i64 x.off, .int .i64 x.len, .int .i64 x.total, .int .i64 x.num, .slice x.da x.dn x.dc, .int .i64 x.path] TIt) := by obtain ⟨n, rfl⟩ := hW; exact Lib.hid OX.out.dn
  have HBW : Hid (Below w.heap.size w W) := by obtain ⟨n, rfl⟩ := hW; exact Lib.hid (below_dn HB.out)
  clear hW lx fx cx0 cx1 cx2 cx3 cx4 cx5 cx6 cx7 cx8 cx9 cx10 lb cb0
  obtain ⟨lx, cx, fx⟩ := OW.out.blk
  have cx0 : W.cell? ⟨X, 0, none⟩ = some (.int .i64 x.kind) := cx 0
  have cx1 : W.cell? ⟨X, 1, none⟩ = some (.int .i64 x.src) := cx 1
  have cx2 : W.cell? ⟨X, 2, none⟩ = some (.int .i64 x.dst) := cx 2
  have cx3 : W.cell? ⟨X, 3, none⟩ = some (.int .i64 x.prio) := cx 3
  have cx4 : W.cell? ⟨X, 4, none⟩ = some (.int .u64 x.msg) := cx 4
  have cx5 : W.cell? ⟨X, 5, none⟩ = some (.int .i64 x.off) := cx 5
  have cx6 : W.cell? ⟨X, 6, none⟩ = some (.int .i64 x.len) := cx 6
  have cx7 : W.cell? ⟨X, 7, none⟩ = some (.int .i64 x.total) := cx 7
  have cx8 : W.cell? ⟨X, 8, none⟩ = some (.int .i64 x.num) := cx 8
  have cx9 : W.cell? ⟨X, 9, none⟩ = some (.slice x.da x.dn x.dc) := cx 9
  have cx10 : W.cell? ⟨X, 10, none⟩ = some (.int .i64 x.path) := cx 10
  clear cx
  have cells := (PW.out.ob.blk).2.1
  have lb := PW.out.ob.lt
  have cb0 : W.cell? ⟨b, 0, none⟩ = some (.pointer (some ⟨l.q, 0, none⟩)) := cells 0
  clear cells
  go_wp2_with fail
  refine wp_run (M := (fun _ => False)) (stages [([true, true, true, true, true, true, true, false, true, false, false, false, false], 7), ([false, false, false, false, false, false, false, false, false, false, false, false, false], 9), ([false, false, false, false, false, false, false, false, false, false, false, false, false], 10)] [false, false, false, false, false, false, false, false, false, false, false, true, true]) (by kernel_rfl) (by kernel_rfl) ?_
  refine run_stage rfl ?_
  simp only [pickAt]
  repeat (go_big_quiet_step (fail))
  refine wpQuiet_nil ?_
  refine run_want rfl ?_
  intro A hA
  go_simp
  refine (clamp_any _ _ _ _).mono ?_
  rintro e w' ⟨rfl, rfl⟩
  rw [HI.out]
  refine hA _ _ ((Kept.refl _ _)) ?_
  try simp only [Act.put, List.setIfInBounds_toArray, List.set_cons_zero, List.set_cons_succ]
  clear A hA
  refine run_stage rfl ?_
  simp only [pickAt]
  repeat (go_big_quiet_step (fail))
  refine wpQuiet_nil ?_
  refine run_want rfl ?_
  intro A hA
  go_simp
  have hown := pown x x.bs W.drew (RW.out.kept (Kept.drew (fun _ => False) W) (fun _ _ _ _ h => h)) hn
  unfold It.val at hown
  refine hown.mono ?_
  rintro e w6 ⟨a6, c6, rfl, ho6, hb6⟩
  clear hown
  obtain ⟨y, hy⟩ : ∃ y, x.data a6 c6 = y := ⟨_, rfl⟩
  have hyl : -1000000000 ≤ y.len ∧ y.len ≤ 1073741824 := by rw [← hy]; exact hxl
  have hys : y.sz = x.sz := by rw [← hy]; rfl
  rw [hy]
  clear hy
  have P6 := Lib.hid (PW.out.keptF ((Kept.drew _ W).trans (Kept.of_below hb6)))
  have OX6 := Lib.hid (OW.out.kept ((Kept.drew (fun _ => False) W).trans (Kept.of_below hb6)) (fun h => h))
  have B6 := Lib.hid ((below_dn (n := 1) HBW.out).trans (hb6.mono HBW.out.size))
  refine hA _ _ (Kept.of_below hb6) ?_
  try simp only [Act.put, List.setIfInBounds_toArray, List.set_cons_zero, List.set_cons_succ]
  clear A hA
  clear hb6 ho6
  refine run_stage rfl ?_
  simp only [pickAt]
  repeat (go_big_quiet_step (fail))
  refine wpQuiet_nil ?_
  refine run_want rfl ?_
  intro A hA
  go_simp
  refine (push_full l.q B0 l.V p.room p.u p.L i y _ P6.out.qu hyl hi hroom hu (by rw [hys]; exact hf)).mono ?_
  rintro e w7 ⟨rfl, hb7⟩
  have P7 := Lib.hid (P6.out.below hb7)
  have OX7 := Lib.hid (OX6.out.below hb7)
  have B7 := Lib.hid (B6.out.trans (hb7.mono B6.out.size))
  refine hA _ _ (Kept.of_below hb7) ?_
  try simp only [Act.put, List.setIfInBounds_toArray, List.set_cons_zero, List.set_cons_succ]
  clear A hA
  clear hb7 lx fx cx0 cx1 cx2 cx3 cx4 cx5 cx6 cx7 cx8 cx9 cx10 lb cb0
  refine run_last ?_
  simp only [pickAt]
  repeat (go_big_quiet_step (fail))
  refine wpQuiet_nil ?_
  obtain ⟨lx, cx, fx⟩ := OX7.out.blk
  have cx0 : w7.cell? ⟨X, 0, none⟩ = some (.int .i64 x.kind) := cx 0
  have cx1 : w7.cell? ⟨X, 1, none⟩ = some (.int .i64 x.src) := cx 1
  have cx2 : w7.cell? ⟨X, 2, none⟩ = some (.int .i64 x.dst) := cx 2
  have cx3 : w7.cell? ⟨X, 3, none⟩ = some (.int .i64 x.prio) := cx 3
  have cx4 : w7.cell? ⟨X, 4, none⟩ = some (.int .u64 x.msg) := cx 4
  have cx5 : w7.cell? ⟨X, 5, none⟩ = some (.int .i64 x.off) := cx 5
  have cx6 : w7.cell? ⟨X, 6, none⟩ = some (.int .i64 x.len) := cx 6
  have cx7 : w7.cell? ⟨X, 7, none⟩ = some (.int .i64 x.total) := cx 7
  have cx8 : w7.cell? ⟨X, 8, none⟩ = some (.int .i64 x.num) := cx 8
  have cx9 : w7.cell? ⟨X, 9, none⟩ = some (.slice x.da x.dn x.dc) := cx 9
  have cx10 : w7.cell? ⟨X, 10, none⟩ = some (.int .i64 x.path) := cx 10
  clear cx
  have cells := (P7.out.ob.blk).2.1
  have lb := P7.out.ob.lt
  have cb0 : w7.cell? ⟨b, 0, none⟩ = some (.pointer (some ⟨l.q, 0, none⟩)) := cells 0
  have cb3 : w7.cell? ⟨b, 3, none⟩ = some (.bool p.trim) := cells 3
  clear cells
  rw [ht] at cb3
  have hk2 : (x.kind == 1) = true := beq_iff_eq.2 HK1.out
  have hk3 := HK1.out
  go_upto_region 12 with fail
  clear hk2 hk3 cb3
  have hwh := whead x 7 w7
  unfold It.frv at hwh
  go_wp2_with fail
  refine (hwh).mono ?_
  rintro e w8 ⟨rfl, hb8⟩
  have P8 := Lib.hid (P7.out.below hb8)
  have OX8 := Lib.hid (OX7.out.below hb8)
  have B8 := Lib.hid (B7.out.trans (hb8.mono B7.out.size))
  clear hb8 hwh lx fx cx0 cx1 cx2 cx3 cx4 cx5 cx6 cx7 cx8 cx9 cx10 lb cb0
  obtain ⟨y, HY⟩ : ∃ y, Hid (x.hdr 7 = y) := ⟨_, Lib.hid rfl⟩
  have HYP : Hid (y.path = x.path) := Lib.hid (by rw [← HY.out]; rfl)
  rw [HY.out]
  obtain ⟨lx, cx, fx⟩ := OX8.out.blk
  have cx0 : w8.cell? ⟨X, 0, none⟩ = some (.int .i64 x.kind) := cx 0
  have cx1 : w8.cell? ⟨X, 1, none⟩ = some (.int .i64 x.src) := cx 1
  have cx2 : w8.cell? ⟨X, 2, none⟩ = some (.int .i64 x.dst) := cx 2
  have cx3 : w8.cell? ⟨X, 3, none⟩ = some (.int .i64 x.prio) := cx 3
  have cx4 : w8.cell? ⟨X, 4, none⟩ = some (.int .u64 x.msg) := cx 4
  have cx5 : w8.cell? ⟨X, 5, none⟩ = some (.int .i64 x.off) := cx 5
  have cx6 : w8.cell? ⟨X, 6, none⟩ = some (.int .i64 x.len) := cx 6
  have cx7 : w8.cell? ⟨X, 7, none⟩ = some (.int .i64 x.total) := cx 7
  have cx8 : w8.cell? ⟨X, 8, none⟩ = some (.int .i64 x.num) := cx 8
  have cx9 : w8.cell? ⟨X, 9, none⟩ = some (.slice x.da x.dn x.dc) := cx 9
  have cx10 : w8.cell? ⟨X, 10, none⟩ = some (.int .i64 x.path) := cx 10
  clear cx
  go_upto_region 13 with fail
  have hw : ((((((((((w8.setCell ⟨X, 0, none⟩ (.int .i64 y.kind)).setCell ⟨X, 1, none⟩ (.int .i64 y.src)).setCell ⟨X, 2, none⟩ (.int .i64 y.dst)).setCell ⟨X, 3, none⟩ (.int .i64 y.prio)).setCell ⟨X, 4, none⟩ (.int .u64 y.msg)).setCell ⟨X, 5, none⟩ (.int .i64 y.off)).setCell ⟨X, 6, none⟩ (.int .i64 y.len)).setCell ⟨X, 7, none⟩ (.int .i64 y.total)).setCell ⟨X, 8, none⟩ (.int .i64 y.num)).setCell ⟨X, 9, none⟩ (.slice y.da y.dn y.dc)) = w8.setCells X 0 [.int .i64 y.kind, .int .i64 y.src, .int .i64 y.dst, .int .i64 y.prio, .int .u64 y.msg, .int .i64 y.off, .int .i64 y.len, .int .i64 y.total, .int .i64 y.num, .slice y.da y.dn y.dc] := rfl
  rw [hw]
  clear hw lx fx cx0 cx1 cx2 cx3 cx4 cx5 cx6 cx7 cx8 cx9 cx10
  have OX9 : Hid (Ob (w8.setCells X 0 [.int .i64 y.kind, .int .i64 y.src, .int .i64 y.dst, .int .i64 y.prio, .int .u64 y.msg, .int .i64 y.off, .int .i64 y.len, .int .i64 y.total, .int .i64 y.num, .slice y.da y.dn y.dc]) X #[.int .i64 y.kind, .int .i64 y.src, .int .i64 y.dst, .int .i64 y.prio, .int .u64 y.msg, .int .i64 y.off, .int .i64 y.len, .int .i64 y.total, .int .i64 y.num, .slice y.da y.dn y.dc, .int .i64 y.path] TIt) := Lib.hid (by
    rw [HYP.out]
    exact OX8.out.setsP [.int .i64 y.kind, .int .i64 y.src, .int .i64 y.dst, .int .i64 y.prio, .int .u64 y.msg, .int .i64 y.off, .int .i64 y.len, .int .i64 y.total, .int .i64 y.num, .slice y.da y.dn y.dc] (by show 10 ≤ 11; decide))
  have hvX : l.v.ownBlock ≠ some X := fun hh => by
    have h1 := ((HP.out.own).lt X hh).2
    have h2 := HX.out
    omega
  have P9 := Lib.hid (P8.out.local ((Kept.refl (Only X) w8).setsO (X := X) (show X = X from rfl) [.int .i64 y.kind, .int .i64 y.src, .int .i64 y.dst, .int .i64 y.prio, .int .u64 y.msg, .int .i64 y.off, .int .i64 y.len, .int .i64 y.total, .int .i64 y.num, .slice y.da y.dn y.dc]) OX8.out.ty hvX)
  have B9 := Lib.hid (Below.sets B8.out (X := X) (Nat.le_of_eq HX.out) B8.out.size [.int .i64 y.kind, .int .i64 y.src, .int .i64 y.dst, .int .i64 y.prio, .int .u64 y.msg, .int .i64 y.off, .int .i64 y.len, .int .i64 y.total, .int .i64 y.num, .slice y.da y.dn y.dc])
  generalize w8.setCells X 0 [.int .i64 y.kind, .int .i64 y.src, .int .i64 y.dst, .int .i64 y.prio, .int .u64 y.msg, .int .i64 y.off, .int .i64 y.len, .int .i64 y.total, .int .i64 y.num, .slice y.da y.dn y.dc] = w9 at *
  have hyl : -1000000000 ≤ y.len ∧ y.len ≤ 1073741824 := by rw [← HY.out]; exact hxl
  have hys : y.sz = 26 := by rw [← HY.out]; rfl
  obtain ⟨lx, cx, fx⟩ := OX9.out.blk
  have cx0 : w9.cell? ⟨X, 0, none⟩ = some (.int .i64 y.kind) := cx 0
  have cx1 : w9.cell? ⟨X, 1, none⟩ = some (.int .i64 y.src) := cx 1
  have cx2 : w9.cell? ⟨X, 2, none⟩ = some (.int .i64 y.dst) := cx 2
  have cx3 : w9.cell? ⟨X, 3, none⟩ = some (.int .i64 y.prio) := cx 3
  have cx4 : w9.cell? ⟨X, 4, none⟩ = some (.int .u64 y.msg) := cx 4
  have cx5 : w9.cell? ⟨X, 5, none⟩ = some (.int .i64 y.off) := cx 5
  have cx6 : w9.cell? ⟨X, 6, none⟩ = some (.int .i64 y.len) := cx 6
  have cx7 : w9.cell? ⟨X, 7, none⟩ = some (.int .i64 y.total) := cx 7
  have cx8 : w9.cell? ⟨X, 8, none⟩ = some (.int .i64 y.num) := cx 8
  have cx9 : w9.cell? ⟨X, 9, none⟩ = some (.slice y.da y.dn y.dc) := cx 9
  have cx10 : w9.cell? ⟨X, 10, none⟩ = some (.int .i64 y.path) := cx 10
  clear cx
  have cells := (P9.out.ob.blk).2.1
  have lb := P9.out.ob.lt
  have cb0 : w9.cell? ⟨b, 0, none⟩ = some (.pointer (some ⟨l.q, 0, none⟩)) := cells 0
  clear cells
  refine wp_run (M := (fun _ => False)) (stages [([true, true, true, true, true, false, false], 5)] [false, false, false, false, false, false, true]) (by kernel_rfl) (by kernel_rfl) ?_
  refine run_stage rfl ?_
  simp only [pickAt]
  repeat (go_big_quiet_step (fail))
  refine wpQuiet_nil ?_
  refine run_want rfl ?_
  intro A hA
  go_simp
  refine (push_full l.q B0 l.V p.room p.u p.L 7 y _ (P9.out.keptF (Kept.drew _ _)).qu hyl (by decide) hroom hu (by rw [hys]; exact hf2)).mono ?_
  rintro e w10 ⟨rfl, hb10⟩
  have B10 := Lib.hid ((below_dn (n := 1) B9.out).trans (hb10.mono B9.out.size))
  refine hA _ _ (Kept.of_below hb10) ?_
  try simp only [Act.put, List.setIfInBounds_toArray, List.set_cons_zero, List.set_cons_succ]
  clear A hA
  clear hb10
  refine run_last ?_
  simp only [pickAt]
  repeat (go_big_quiet_step (fail))
  refine wpQuiet_nil ?_
  go_wp2_with fail
  go_ret
  exact ⟨rfl, HX.out ▸ B10.out⟩
end Go.Proofs.Ytoihhidoafgoaaa
/- A port (chapter 13): how many wait; one of them lost. -/
namespace Go.Proofs.Ytoihhidoafgoaaa
open Go.RowKit

def Pp.lens (p : Pp) : Prop := (∀ i, i < 8 → (p.L i).length ≤ 1000000) ∧ p.C.length ≤ 1000000
theorem lenTo_wfrom (L : Nat → List It) : lenTo L 8 = (wfrom L 8).length := by
  simp [lenTo, wfrom]
  omega
set_option maxRecDepth 100000 in
set_option maxHeartbeats 4000000 in
theorem len_pt (b B0 : Nat) (l : Pl) (p : Pp) (w : World) (h : Po b B0 l p w) (hl : p.lens) : Calls Try.prog 44 #[.pointer (some ⟨b, 0, none⟩)] w fun e w' => e = .returned (.int .i64 p.waits.length) ∧ ∃ m, w' = w.drewN m := by
  obtain ⟨a, c, hv, _, _⟩ := h.form
  have HQ := Lib.hid h.qu
  have lb := h.ob.lt
  have cb0 : w.cell? ⟨b, 0, none⟩ = some (.pointer (some ⟨l.q, 0, none⟩)) := (h.ob.blk).2.1 0
  have cb1 : w.cell? ⟨b, 1, none⟩ = some (.slice a p.C.length c) := ((h.ob.blk).2.1 1).trans (congrArg some hv)
  have HW := Lib.hid (show (p.waits.length : Int) = (lenTo p.L 8 : Int) + (p.C.length : Int) by unfold Pp.waits; rw [List.length_append, lenTo_wfrom]; push_cast; rfl)
  have hc := hl.2
  have hb : (lenTo p.L 8) ≤ 8000000 := lenTo_le p.L 1000000 hl.1 8 (by decide)
  have HL := Lib.hid hl.1
  clear hv h hl
  go_enter Try.func44, Try.ntmps44
  go_wp2_with fail
  refine wp_region_quiet_lit (by kernel_rfl) (by kernel_rfl) ?_
  try simp only [List.append]
  repeat (first | go_big_quiet_step (first | (go_at_call 75; exact quietS (len_any l.q B0 l.V p.room p.u p.L _ (HQ.out.dn) HL.out)) | (go_at_call 75; exact quietA (len_any l.q B0 l.V p.room p.u p.L _ (HQ.out.dn) HL.out))) | quiet_step (first | (go_at_call 75; exact quietS (len_any l.q B0 l.V p.room p.u p.L _ (HQ.out.dn) HL.out)) | (go_at_call 75; exact quietA (len_any l.q B0 l.V p.room p.u p.L _ (HQ.out.dn) HL.out))))
  refine wpQuiet_nil ?_
  intro W hW
  go_wp2_with fail
  go_ret
  exact ⟨by rw [HW.out]; rfl, hW⟩
theorem drop_no (b B0 : Nat) (l : Pl) (p : Pp) (k : Int) (w : World) (h : Po b B0 l p w) (hl : p.lens) (hk : k < 0 ∨ (p.waits.length : Int) ≤ k) : Calls Try.prog 46 #[.pointer (some ⟨b, 0, none⟩), .int .i64 k] w fun e w' => e = .returned (.tuple #[noBox, .bool false]) ∧ Below w.heap.size w w' := by
  have hk2 : k < 0 ∨ (0 ≤ k ∧ (p.waits.length : Int) ≤ k) := by omega
  have HP := Lib.hid h
  have HL := Lib.hid hl
  clear h hl hk
  rcases hk2 with hk | ⟨hk, hk2⟩
  · go_enter Try.func46, Try.ntmps46
    go_wp2_with fail
    refine done (.tuple #[noBox, .bool false]) rfl (by simp [noBox, results, Try.results46, go_sem]) ⟨rfl, (Below.refl _ _).alloc (Nat.le_refl _) _⟩
  · go_enter Try.func46, Try.ntmps46
    go_upto_region 1 with fail
    have OV := Lib.hid (Ob.new w #[.int .i64 0, .int .i64 0, .int .i64 0, .int .i64 0, .int .u64 0, .int .i64 0, .int .i64 0, .int .i64 0, .int .i64 0, .slice none 0 0, .int .i64 0] TIt)
    have HB := Lib.hid ((Below.refl w.heap.size w).alloc (Nat.le_refl _) (.cells #[.int .i64 0, .int .i64 0, .int .i64 0, .int .i64 0, .int .u64 0, .int .i64 0, .int .i64 0, .int .i64 0, .int .i64 0, .slice none 0 0, .int .i64 0] TIt))
    have P1 := Lib.hid (HP.out.below HB.out)
    generalize w.alloc (.cells #[.int .i64 0, .int .i64 0, .int .i64 0, .int .i64 0, .int .u64 0, .int .i64 0, .int .i64 0, .int .i64 0, .int .i64 0, .slice none 0 0, .int .i64 0] TIt) = w1 at *
    obtain ⟨X, HX⟩ : ∃ X, Hid (w.heap.size = X) := ⟨_, Lib.hid rfl⟩
    rw [HX.out] at OV ⊢
    go_wp2_with fail
    refine (len_pt b B0 l p w1 P1.out HL.out).mono ?_
    rintro e w2 ⟨rfl, hm⟩
    have HB2 : Hid (Below w.heap.size w w2) := by obtain ⟨m, rfl⟩ := hm; exact Lib.hid (below_dn HB.out)
    have OV2 : Hid (Ob w2 X #[.int .i64 0, .int .i64 0, .int .i64 0, .int .i64 0, .int .u64 0, .int .i64 0, .int .i64 0, .int .i64 0, .int .i64 0, .slice none 0 0, .int .i64 0] TIt) := by obtain ⟨m, rfl⟩ := hm; exact Lib.hid OV.out.dn
    clear hm
    obtain ⟨lx, cx, fx⟩ := OV2.out.blk
    have cx0 : w2.cell? ⟨X, 0, none⟩ = some (.int .i64 0) := cx 0
    have cx1 : w2.cell? ⟨X, 1, none⟩ = some (.int .i64 0) := cx 1
    have cx2 : w2.cell? ⟨X, 2, none⟩ = some (.int .i64 0) := cx 2
    have cx3 : w2.cell? ⟨X, 3, none⟩ = some (.int .i64 0) := cx 3
    have cx4 : w2.cell? ⟨X, 4, none⟩ = some (.int .u64 0) := cx 4
    have cx5 : w2.cell? ⟨X, 5, none⟩ = some (.int .i64 0) := cx 5
    have cx6 : w2.cell? ⟨X, 6, none⟩ = some (.int .i64 0) := cx 6
    have cx7 : w2.cell? ⟨X, 7, none⟩ = some (.int .i64 0) := cx 7
    have cx8 : w2.cell? ⟨X, 8, none⟩ = some (.int .i64 0) := cx 8
    have cx9 : w2.cell? ⟨X, 9, none⟩ = some (.slice none 0 0) := cx 9
    have cx10 : w2.cell? ⟨X, 10, none⟩ = some (.int .i64 0) := cx 10
    clear cx
    go_wp2_with fail
    have hw : (((((((((((w2.setCell ⟨X, 0, none⟩ (.int .i64 0)).setCell ⟨X, 1, none⟩ (.int .i64 0)).setCell ⟨X, 2, none⟩ (.int .i64 0)).setCell ⟨X, 3, none⟩ (.int .i64 0)).setCell ⟨X, 4, none⟩ (.int .u64 0)).setCell ⟨X, 5, none⟩ (.int .i64 0)).setCell ⟨X, 6, none⟩ (.int .i64 0)).setCell ⟨X, 7, none⟩ (.int .i64 0)).setCell ⟨X, 8, none⟩ (.int .i64 0)).setCell ⟨X, 9, none⟩ (.slice none 0 0)).setCell ⟨X, 10, none⟩ (.int .i64 0)) = w2.setCells X 0 [.int .i64 0, .int .i64 0, .int .i64 0, .int .i64 0, .int .u64 0, .int .i64 0, .int .i64 0, .int .i64 0, .int .i64 0, .slice none 0 0, .int .i64 0] := rfl
    rw [hw]
    clear hw cx0 cx1 cx2 cx3 cx4 cx5 cx6 cx7 cx8 cx9 cx10 lx fx
    have OF := Lib.hid (OV2.out.sets [.int .i64 0, .int .i64 0, .int .i64 0, .int .i64 0, .int .u64 0, .int .i64 0, .int .i64 0, .int .i64 0, .int .i64 0, .slice none 0 0, .int .i64 0] rfl)
    have HF := Lib.hid (Below.sets HB2.out (X := X) (Nat.le_of_eq HX.out) HB2.out.size [.int .i64 0, .int .i64 0, .int .i64 0, .int .i64 0, .int .u64 0, .int .i64 0, .int .i64 0, .int .i64 0, .int .i64 0, .slice none 0 0, .int .i64 0])
    generalize w2.setCells X 0 [.int .i64 0, .int .i64 0, .int .i64 0, .int .i64 0, .int .u64 0, .int .i64 0, .int .i64 0, .int .i64 0, .int .i64 0, .slice none 0 0, .int .i64 0] = F at *
    obtain ⟨lf, cf, ff⟩ := OF.out.blk
    have cf0 : F.cell? ⟨X, 0, none⟩ = some (.int .i64 0) := cf 0
    have cf1 : F.cell? ⟨X, 1, none⟩ = some (.int .i64 0) := cf 1
    have cf2 : F.cell? ⟨X, 2, none⟩ = some (.int .i64 0) := cf 2
    have cf3 : F.cell? ⟨X, 3, none⟩ = some (.int .i64 0) := cf 3
    have cf4 : F.cell? ⟨X, 4, none⟩ = some (.int .u64 0) := cf 4
    have cf5 : F.cell? ⟨X, 5, none⟩ = some (.int .i64 0) := cf 5
    have cf6 : F.cell? ⟨X, 6, none⟩ = some (.int .i64 0) := cf 6
    have cf7 : F.cell? ⟨X, 7, none⟩ = some (.int .i64 0) := cf 7
    have cf8 : F.cell? ⟨X, 8, none⟩ = some (.int .i64 0) := cf 8
    have cf9 : F.cell? ⟨X, 9, none⟩ = some (.slice none 0 0) := cf 9
    have cf10 : F.cell? ⟨X, 10, none⟩ = some (.int .i64 0) := cf 10
    clear cf
    exact done (.tuple #[noBox, .bool false]) rfl (by simp [noBox, results, Try.results46, go_sem, cf0, cf1, cf2, cf3, cf4, cf5, cf6, cf7, cf8, cf9, cf10]) ⟨rfl, HX.out ▸ HF.out⟩
def DropPost (b B0 : Nat) (l : Pl) (p : Pp) (k : Nat) (w : World) (e : Ending) (w' : World) : Prop :=
  (∃ (i j : Nat) (hj : j < (p.L i).length), i < 8 ∧ k = (wfrom p.L (7 - i)).length + j ∧ e = .returned (.tuple #[boxV (p.L i)[j], .bool true]) ∧ PoPost b B0 l { p with u := p.u - (p.L i)[j].sz, L := upd p.L i ((p.L i).take j ++ (p.L i).drop (j + 1)) } w w') ∨
  (∃ (j : Nat) (hj : j < p.C.length), k = (wfrom p.L 8).length + j ∧ e = .returned (.tuple #[boxV p.C[j], .bool true]) ∧ PoPost b B0 l { p with C := p.C.take j ++ p.C.drop (j + 1) } w w')
set_option maxRecDepth 100000 in
set_option maxHeartbeats 4000000 in
theorem drop_yes (b B0 : Nat) (l : Pl) (p : Pp) (k : Nat) (w : World) (h : Po b B0 l p w) (hl : p.lens) (hk : k < p.waits.length) (hu : ∀ i, i < 8 → ∀ x ∈ p.L i, x.sz ≤ p.u) (hu2 : p.u ≤ 1099511627776) : Calls Try.prog 46 #[.pointer (some ⟨b, 0, none⟩), .int .i64 k] w (DropPost b B0 l p k w) := by
  have HP := Lib.hid h
  have HL := Lib.hid hl
  have HU := Lib.hid hu
  have HK := Lib.hid hk
  have hk1 : k ≤ 9000000 := by
    have := wfrom_len p.L 1000000 hl.1 8 (by decide)
    unfold Pp.waits at hk
    rw [List.length_append] at hk
    have := hl.2
    omega
  clear h hl hu
  have hk0 : ¬ (k : Int) < 0 := by omega
  go_enter Try.func46, Try.ntmps46
  go_upto_region 1 with fail
  have OV := Lib.hid (Ob.new w #[.int .i64 0, .int .i64 0, .int .i64 0, .int .i64 0, .int .u64 0, .int .i64 0, .int .i64 0, .int .i64 0, .int .i64 0, .slice none 0 0, .int .i64 0] TIt)
  have HB := Lib.hid ((Below.refl w.heap.size w).alloc (Nat.le_refl _) (.cells #[.int .i64 0, .int .i64 0, .int .i64 0, .int .i64 0, .int .u64 0, .int .i64 0, .int .i64 0, .int .i64 0, .int .i64 0, .slice none 0 0, .int .i64 0] TIt))
  have P1 := Lib.hid (HP.out.below HB.out)
  generalize w.alloc (.cells #[.int .i64 0, .int .i64 0, .int .i64 0, .int .i64 0, .int .u64 0, .int .i64 0, .int .i64 0, .int .i64 0, .int .i64 0, .slice none 0 0, .int .i64 0] TIt) = w1 at *
  obtain ⟨X, HX⟩ : ∃ X, Hid (w.heap.size = X) := ⟨_, Lib.hid rfl⟩
  rw [HX.out] at OV ⊢
  go_wp2_with fail
  refine (len_pt b B0 l p w1 P1.out HL.out).mono ?_
  rintro e w2 ⟨rfl, hm⟩
  have HB2 : Hid (Below w.heap.size w w2) := by obtain ⟨m, rfl⟩ := hm; exact Lib.hid (below_dn HB.out)
  have OV2 : Hid (Ob w2 X #[.int .i64 0, .int .i64 0, .int .i64 0, .int .i64 0, .int .u64 0, .int .i64 0, .int .i64 0, .int .i64 0, .int .i64 0, .slice none 0 0, .int .i64 0] TIt) := by obtain ⟨m, rfl⟩ := hm; exact Lib.hid OV.out.dn
  clear hm
  go_wp2_with fail
  rw [decide_eq_false (show ¬ p.waits.length ≤ k by omega)]
  go_loopw [1, 5, 6, 7] (fun kk _ pr _ wr => ∃ r : Nat, r ≤ 8 ∧ pr = .int .i64 (7 - r) ∧ (wfrom p.L r).length ≤ k ∧ kk = .int .i64 ((k : Int) - (wfrom p.L r).length) ∧ Below w2.heap.size w2 wr) (fun _ _ pr _ _ => (intOf pr + 1).toNat)
  case atStart => exact ⟨0, by omega, rfl, by simp [wfrom], by simp [wfrom], Below.refl _ _⟩
  case round =>
    obtain ⟨r, hr, rfl, hle, rfl, hb⟩ := hrel
    have B3 := Lib.hid hb
    clear hb
    rename World => wk
    have P3 := Lib.hid (HP.out.below (HB2.out.trans (B3.out.mono HB2.out.size)))
    have OV3 := Lib.hid (OV2.out.below B3.out)
    have cells := (P3.out.ob.blk).2.1
    have lb := P3.out.ob.lt
    have cb0 : wk.cell? ⟨b, 0, none⟩ = some (.pointer (some ⟨l.q, 0, none⟩)) := cells 0
    by_cases h8 : r < 8
    · obtain ⟨q, hq⟩ : ∃ q : Nat, q = 7 - r := ⟨_, rfl⟩
      have hq8 : q < 8 := by omega
      have hqi : (7 : Int) - r = q := by omega
      have hlq := HL.out.1 q hq8
      have HQ := Lib.hid hq
      have HQI := Lib.hid hqi
      rw [hqi]
      clear hq hqi cells
      obtain ⟨j, HJ⟩ : ∃ j : Nat, Hid (k = (wfrom p.L r).length + j) := ⟨k - (wfrom p.L r).length, Lib.hid (by omega)⟩
      have HJI : Hid ((k : Int) - (wfrom p.L r).length = j) := Lib.hid (by have := HJ.out; omega)
      have hj9 : j ≤ 9000000 := by have := HJ.out; omega
      rw [HJI.out]
      go_wp2_with fail
      refine (line_any l.q B0 l.V p.room p.u p.L q wk P3.out.qu hq8 hlq).mono ?_
      rintro e w4 ⟨v, rfl, hov, hb4⟩
      obtain ⟨av, cv, rfl, _, _⟩ := (Rd.of_own hov).form
      have P4 := Lib.hid (P3.out.below hb4)
      have OV4 := Lib.hid (OV3.out.below hb4)
      have B4 := Lib.hid (B3.out.trans (hb4.mono B3.out.size))
      clear hov hb4 lb cb0
      by_cases hlt : j < (p.L q).length
      · have cells := (P4.out.ob.blk).2.1
        have lb := P4.out.ob.lt
        have cb0 : w4.cell? ⟨b, 0, none⟩ = some (.pointer (some ⟨l.q, 0, none⟩)) := cells 0
        clear cells
        have HM := Lib.hid (List.getElem_mem hlt)
        go_wp2_with fail
        refine (remove_yes l.q B0 l.V p.room p.u p.L q j _ P4.out.qu hq8 hlt ⟨HU.out q hq8 _ HM.out, hu2⟩).mono ?_
        rintro e w5 ⟨rfl, V5, hq5, hk5, hf5⟩
        have Q5 := Lib.hid (P4.out.queue (L' := upd p.L q ((p.L q).take j ++ (p.L q).drop (j + 1))) (u' := p.u - (p.L q)[j].sz) hk5 hq5 hf5 (fun z i hi hz => .inl (.inr ⟨i, hi, by
          by_cases hji : i = q
          · subst hji
            rw [upd_same] at hz
            rcases List.mem_append.1 hz with hz | hz
            · exact List.mem_of_mem_take hz
            · exact List.mem_of_mem_drop hz
          · rw [upd_other _ _ hji] at hz
            exact hz⟩)))
        have hqX : ¬ QM l.q l.V X := fun hh => by
          rcases P4.out.qu.ty hh with h3 | h3
          · exact absurd (h3.one OV4.out.ty) (by decide)
          · exact absurd (h3.one OV4.out.ty) (by decide)
        have OV5 := Lib.hid (OV4.out.kept hk5 hqX)
        have HX5 := Lib.hid (show (p.L q)[j] = (p.L q)[j] from rfl)
        obtain ⟨x, hx⟩ : ∃ x, (p.L q)[j] = x := ⟨_, rfl⟩
        have HXX := Lib.hid hx
        rw [hx] at Q5 ⊢
        clear hx HX5 HM hk5 hq5 hf5 lb cb0
        obtain ⟨l5, P5', K5', F5'⟩ := Q5.out
        have P5 := Lib.hid P5'
        have F5 := Lib.hid F5'
        have KK : Hid (Kept (PM b l) w w5) := Lib.hid ((Kept.of_below (HB2.out.trans (B4.out.mono HB2.out.size))).trans K5')
        have S5 : Hid (w.heap.size ≤ w4.heap.size) := Lib.hid (Nat.le_trans HB2.out.size B4.out.size)
        have lX4 := OV4.out.lt
        clear P5' K5' F5'
        obtain ⟨lx, cx, fx⟩ := OV5.out.blk
        have cx0 : w5.cell? ⟨X, 0, none⟩ = some (.int .i64 0) := cx 0
        have cx1 : w5.cell? ⟨X, 1, none⟩ = some (.int .i64 0) := cx 1
        have cx2 : w5.cell? ⟨X, 2, none⟩ = some (.int .i64 0) := cx 2
        have cx3 : w5.cell? ⟨X, 3, none⟩ = some (.int .i64 0) := cx 3
        have cx4 : w5.cell? ⟨X, 4, none⟩ = some (.int .u64 0) := cx 4
        have cx5 : w5.cell? ⟨X, 5, none⟩ = some (.int .i64 0) := cx 5
        have cx6 : w5.cell? ⟨X, 6, none⟩ = some (.int .i64 0) := cx 6
        have cx7 : w5.cell? ⟨X, 7, none⟩ = some (.int .i64 0) := cx 7
        have cx8 : w5.cell? ⟨X, 8, none⟩ = some (.int .i64 0) := cx 8
        have cx9 : w5.cell? ⟨X, 9, none⟩ = some (.slice none 0 0) := cx 9
        have cx10 : w5.cell? ⟨X, 10, none⟩ = some (.int .i64 0) := cx 10
        clear cx
        unfold boxV
        go_wp2_with fail
        have hw : (((((((((((w5.setCell ⟨X, 0, none⟩ (.int .i64 x.kind)).setCell ⟨X, 1, none⟩ (.int .i64 x.src)).setCell ⟨X, 2, none⟩ (.int .i64 x.dst)).setCell ⟨X, 3, none⟩ (.int .i64 x.prio)).setCell ⟨X, 4, none⟩ (.int .u64 x.msg)).setCell ⟨X, 5, none⟩ (.int .i64 x.off)).setCell ⟨X, 6, none⟩ (.int .i64 x.len)).setCell ⟨X, 7, none⟩ (.int .i64 x.total)).setCell ⟨X, 8, none⟩ (.int .i64 x.num)).setCell ⟨X, 9, none⟩ (.slice x.da x.dn x.dc)).setCell ⟨X, 10, none⟩ (.int .i64 x.path)) = w5.setCells X 0 [.int .i64 x.kind, .int .i64 x.src, .int .i64 x.dst, .int .i64 x.prio, .int .u64 x.msg, .int .i64 x.off, .int .i64 x.len, .int .i64 x.total, .int .i64 x.num, .slice x.da x.dn x.dc, .int .i64 x.path] := rfl
        rw [hw]
        clear hw cx0 cx1 cx2 cx3 cx4 cx5 cx6 cx7 cx8 cx9 cx10 lx fx
        have OF := Lib.hid (OV5.out.sets [.int .i64 x.kind, .int .i64 x.src, .int .i64 x.dst, .int .i64 x.prio, .int .u64 x.msg, .int .i64 x.off, .int .i64 x.len, .int .i64 x.total, .int .i64 x.num, .slice x.da x.dn x.dc, .int .i64 x.path] rfl)
        have PF := Lib.hid (P5.out.local ((Kept.refl (Only X) w5).setsO (X := X) (show X = X from rfl) [.int .i64 x.kind, .int .i64 x.src, .int .i64 x.dst, .int .i64 x.prio, .int .u64 x.msg, .int .i64 x.off, .int .i64 x.len, .int .i64 x.total, .int .i64 x.num, .slice x.da x.dn x.dc, .int .i64 x.path]) OV5.out.ty (fun hh => by
          rcases F5.out X (.inr (.inr (.inl hh))) with h | h
          · obtain ⟨T, ⟨cs, hT⟩, _⟩ := HP.out.ty h
            have := heap_lt hT
            have := HX.out
            omega
          · omega))
        have KF := Lib.hid (KK.out.setsN (X := X) (Nat.le_of_eq HX.out) [.int .i64 x.kind, .int .i64 x.src, .int .i64 x.dst, .int .i64 x.prio, .int .u64 x.msg, .int .i64 x.off, .int .i64 x.len, .int .i64 x.total, .int .i64 x.num, .slice x.da x.dn x.dc, .int .i64 x.path])
        generalize w5.setCells X 0 [.int .i64 x.kind, .int .i64 x.src, .int .i64 x.dst, .int .i64 x.prio, .int .u64 x.msg, .int .i64 x.off, .int .i64 x.len, .int .i64 x.total, .int .i64 x.num, .slice x.da x.dn x.dc, .int .i64 x.path] = F at *
        obtain ⟨lf, cf, ff⟩ := OF.out.blk
        have cf0 : F.cell? ⟨X, 0, none⟩ = some (.int .i64 x.kind) := cf 0
        have cf1 : F.cell? ⟨X, 1, none⟩ = some (.int .i64 x.src) := cf 1
        have cf2 : F.cell? ⟨X, 2, none⟩ = some (.int .i64 x.dst) := cf 2
        have cf3 : F.cell? ⟨X, 3, none⟩ = some (.int .i64 x.prio) := cf 3
        have cf4 : F.cell? ⟨X, 4, none⟩ = some (.int .u64 x.msg) := cf 4
        have cf5 : F.cell? ⟨X, 5, none⟩ = some (.int .i64 x.off) := cf 5
        have cf6 : F.cell? ⟨X, 6, none⟩ = some (.int .i64 x.len) := cf 6
        have cf7 : F.cell? ⟨X, 7, none⟩ = some (.int .i64 x.total) := cf 7
        have cf8 : F.cell? ⟨X, 8, none⟩ = some (.int .i64 x.num) := cf 8
        have cf9 : F.cell? ⟨X, 9, none⟩ = some (.slice x.da x.dn x.dc) := cf 9
        have cf10 : F.cell? ⟨X, 10, none⟩ = some (.int .i64 x.path) := cf 10
        clear cf
        refine done (.tuple #[boxV x, .bool true]) rfl (by simp [boxV, results, Try.results46, go_sem, cf0, cf1, cf2, cf3, cf4, cf5, cf6, cf7, cf8, cf9, cf10]) (.inl ⟨q, j, hlt, hq8, ?_, by rw [HXX.out], l5, by rw [HXX.out]; exact PF.out, KF.out, fun z hz => ?_⟩)
        · have h1 := HJ.out
          have h2 : 7 - q = r := by have := HQ.out; omega
          rw [h2]
          exact h1
        · rcases F5.out z hz with h | h
          · exact .inl h
          · exact .inr (Nat.le_trans S5.out h)
      · go_wp2_with fail
        go_roundw
        case rel =>
          have hl2 : (wfrom p.L (r + 1)).length = (wfrom p.L r).length + (p.L q).length := by
            rw [wfrom, List.length_append, HQ.out]
          refine ⟨r + 1, by omega, by have := HQI.out; congr 1; push_cast; omega, by have := HJ.out; omega, by have := HJI.out; congr 1; rw [hl2]; push_cast; omega, B4.out⟩
        case measure => simp [intOf]
    · obtain rfl : r = 8 := by omega
      clear cells
      rw [show (7 : Int) - ((8 : Nat) : Int) = -1 from rfl]
      obtain ⟨j, HJ⟩ : ∃ j : Nat, Hid (k = (wfrom p.L 8).length + j) := ⟨k - (wfrom p.L 8).length, Lib.hid (by omega)⟩
      have HJI : Hid ((k : Int) - (wfrom p.L 8).length = j) := Lib.hid (by have := HJ.out; omega)
      have hj9 : j ≤ 9000000 := by have := HJ.out; omega
      have hjC : j < p.C.length := by
        have h1 := HK.out
        have h2 := HJ.out
        unfold Pp.waits at h1
        rw [List.length_append] at h1
        omega
      rw [HJI.out]
      obtain ⟨a, c, hv, hac, hac2⟩ := P3.out.form
      have hown := P3.out.own
      obtain ⟨g, c', hv', hBg, _, _, hgw, hgc, hgf⟩ := own_some hown (by omega)
      rw [hv] at hv' hown
      cases hv'
      obtain ⟨_, _, _, hxl, cs, hrw, hcl, hct⟩ := own_row hown
      have HV := Lib.hid hv
      have cb1 : wk.cell? ⟨b, 1, none⟩ = some (.slice (some ⟨g, 0, none⟩) p.C.length c) := ((P3.out.ob.blk).2.1 1).trans (congrArg some hv)
      obtain ⟨x, hx⟩ : ∃ x, p.C[j] = x := ⟨_, rfl⟩
      have HXX := Lib.hid hx
      have g0 : ∀ i u, (x.row)[i]? = some u → wk.cell? ⟨g, j * 11 + i, none⟩ = some u := fun i u hi => by
        have hi11 : i < 11 := (List.getElem?_eq_some_iff.1 hi).1
        refine hgc _ _ ?_
        rw [flat_get rowIt p.C j i hi11, List.getElem?_eq_getElem hjC, hx]
        exact hi
      have cg0 := g0 0 _ rfl
      have cg1 := g0 1 _ rfl
      have cg2 := g0 2 _ rfl
      have cg3 := g0 3 _ rfl
      have cg4 := g0 4 _ rfl
      have cg5 := g0 5 _ rfl
      have cg6 := g0 6 _ rfl
      have cg7 := g0 7 _ rfl
      have cg8 := g0 8 _ rfl
      have cg9 := g0 9 _ rfl
      have cg10 := g0 10 _ rfl
      rw [Nat.add_zero] at cg0
      have HRW := Lib.hid hrw
      have HCL := Lib.hid hcl
      have HCT := Lib.hid hct
      have fb := (P3.out.ob.blk).2.2
      clear g0 hgc hrw hcl hct hxl hown hx hv
      go_upto_region 11 with fail
      have OI : Hid (Ob (wk.alloc (.cells #[.int .i64 x.kind, .int .i64 x.src, .int .i64 x.dst, .int .i64 x.prio, .int .u64 x.msg, .int .i64 x.off, .int .i64 x.len, .int .i64 x.total, .int .i64 x.num, .slice x.da x.dn x.dc, .int .i64 x.path] TIt)) wk.heap.size #[.int .i64 x.kind, .int .i64 x.src, .int .i64 x.dst, .int .i64 x.prio, .int .u64 x.msg, .int .i64 x.off, .int .i64 x.len, .int .i64 x.total, .int .i64 x.num, .slice x.da x.dn x.dc, .int .i64 x.path] TIt) := Lib.hid (Ob.new _ _ _)
      have KA : Hid (Kept (fun _ => False) wk (wk.alloc (.cells #[.int .i64 x.kind, .int .i64 x.src, .int .i64 x.dst, .int .i64 x.prio, .int .u64 x.msg, .int .i64 x.off, .int .i64 x.len, .int .i64 x.total, .int .i64 x.num, .slice x.da x.dn x.dc, .int .i64 x.path] TIt))) := Lib.hid ((Kept.refl _ _).alloc _)
      have P5 := Lib.hid (P3.out.keptF KA.out)
      have OV5 := Lib.hid (OV3.out.kept KA.out (fun h => h))
      have R5 := Lib.hid (HRW.out.kept KA.out (fun h => h))
      have lX4 := OV3.out.lt
      clear lb fb cb0 cb1 cg0 cg1 cg2 cg3 cg4 cg5 cg6 cg7 cg8 cg9 cg10 hgf
      obtain ⟨Z, HZ⟩ : ∃ Z, Hid (wk.heap.size = Z) := ⟨_, Lib.hid rfl⟩
      rw [HZ.out] at OI ⊢
      generalize wk.alloc (.cells #[.int .i64 x.kind, .int .i64 x.src, .int .i64 x.dst, .int .i64 x.prio, .int .u64 x.msg, .int .i64 x.off, .int .i64 x.len, .int .i64 x.total, .int .i64 x.num, .slice x.da x.dn x.dc, .int .i64 x.path] TIt) = w5 at *
      have cells := (P5.out.ob.blk).2.1
      have fb := (P5.out.ob.blk).2.2
      have lb := P5.out.ob.lt
      have cb1 : w5.cell? ⟨b, 1, none⟩ = some (.slice (some ⟨g, 0, none⟩) p.C.length c) := (cells 1).trans (congrArg some HV.out)
      clear cells
      go_wp2_with fail
      refine (delete_it g p.C.length c j (j + 1) cs _ R5.out HCL.out (by omega) (by omega) (by omega) (by omega) (by rw [HCT.out]; exact one_itrows _)).mono ?_
      rintro e w6 ⟨rfl, hk6, cs', hr6, hl6, ht6⟩
      have hgM : ∀ y, Only g y → Lm l.v y := fun y hy => by
        have : y = g := hy
        subst this
        show l.v.ownBlock = some y
        rw [HV.out]; rfl
      have hn1 : p.C.length - (j + 1 - j) = p.C.length - 1 := by omega
      rw [hn1] at ht6 ⊢
      have hll : (p.C.take j ++ p.C.drop (j + 1)).length = p.C.length - 1 := by rw [List.length_append, List.length_take, List.length_drop]; omega
      have hfl : cs'.take ((p.C.length - 1) * 11) = (p.C.take j ++ p.C.drop (j + 1)).flatMap It.row := by
        rw [ht6, List.flatMap_append, ← flat_take rowIt, ← flat_drop rowIt, HCT.out]
        congr 1
        rw [← HCT.out, List.take_take, Nat.min_eq_left (by omega)]
      have O6 : w6.ownsRow B0 TIt 11 (.slice (some ⟨g, 0, none⟩) (p.C.length - 1) c) (p.C.take j ++ p.C.drop (j + 1)).length ((p.C.take j ++ p.C.drop (j + 1)).flatMap It.row) := by
        rw [hll]
        exact row_own hBg (by omega) (by omega) hr6 (by rw [hl6]; exact HCL.out) hfl
      have K6 : Hid (Kept (Lm l.v) w5 w6) := Lib.hid (hk6.mono fun y _ hy => hgM y hy)
      have R6 := Lib.hid (P5.out.cred K6.out O6 (.inl (by rw [HV.out]; rfl)) (fun z hz => .inl (by
        rcases List.mem_append.1 hz with hz | hz
        · exact List.mem_of_mem_take hz
        · exact List.mem_of_mem_drop hz)))
      have hgb : ¬ Only g b := fun hh => absurd ((show Ty w5 b TPt from P5.out.ob.ty).one (own_ty P5.out.own (by show l.v.ownBlock = some b; exact hgM b hh))) (by decide)
      have hgX : ¬ Only g X := fun hh => by
        have h1 := ((HP.out.own).lt g (hgM g rfl)).2
        have h2 := HX.out
        have h3 : X = g := hh
        omega
      have hgZ : ¬ Only g Z := fun hh => by
        have h2 := HZ.out
        have h3 : Z = g := hh
        omega
      have hXZ : X ≠ Z := by have h2 := HZ.out; omega
      have hXb : X ≠ b := fun hh => absurd (Ty.one (hh ▸ OV5.out.ty) P5.out.ob.ty) (by decide)
      have hZb : Z ≠ b := fun hh => absurd (Ty.one (hh ▸ OI.out.ty) P5.out.ob.ty) (by decide)
      have lb6 : b < w6.heap.size := Nat.lt_of_lt_of_le lb K6.out.size
      have fb6 : ∀ i, w6.frozen? ⟨b, i, none⟩ = false := fun i => (hk6.frozen b i lb hgb).trans (fb i)
      have cb6 : w6.cell? ⟨b, 1, none⟩ = some (.slice (some ⟨g, 0, none⟩) p.C.length c) := (hk6.cell b 1 lb hgb).trans cb1
      have OV6 := Lib.hid (OV5.out.kept hk6 hgX)
      have OI6 := Lib.hid (OI.out.kept hk6 hgZ)
      clear lb fb cb1 hk6 hr6 hl6 ht6 O6 hfl hll hn1
      go_upto_region 12 with fail
      have OV7 := Lib.hid (OV6.out.other ⟨b, 1, none⟩ (.slice (some ⟨g, 0, none⟩) (p.C.length - 1) c) hXb)
      have OI7 := Lib.hid (OI6.out.other ⟨b, 1, none⟩ (.slice (some ⟨g, 0, none⟩) (p.C.length - 1) c) hZb)
      clear lb6 fb6 cb6
      generalize w6.setCell ⟨b, 1, none⟩ (.slice (some ⟨g, 0, none⟩) (p.C.length - 1) c) = w7 at *
      obtain ⟨lz, cz, fz⟩ := OI7.out.blk
      have cz0 : w7.cell? ⟨Z, 0, none⟩ = some (.int .i64 x.kind) := cz 0
      have cz1 : w7.cell? ⟨Z, 1, none⟩ = some (.int .i64 x.src) := cz 1
      have cz2 : w7.cell? ⟨Z, 2, none⟩ = some (.int .i64 x.dst) := cz 2
      have cz3 : w7.cell? ⟨Z, 3, none⟩ = some (.int .i64 x.prio) := cz 3
      have cz4 : w7.cell? ⟨Z, 4, none⟩ = some (.int .u64 x.msg) := cz 4
      have cz5 : w7.cell? ⟨Z, 5, none⟩ = some (.int .i64 x.off) := cz 5
      have cz6 : w7.cell? ⟨Z, 6, none⟩ = some (.int .i64 x.len) := cz 6
      have cz7 : w7.cell? ⟨Z, 7, none⟩ = some (.int .i64 x.total) := cz 7
      have cz8 : w7.cell? ⟨Z, 8, none⟩ = some (.int .i64 x.num) := cz 8
      have cz9 : w7.cell? ⟨Z, 9, none⟩ = some (.slice x.da x.dn x.dc) := cz 9
      have cz10 : w7.cell? ⟨Z, 10, none⟩ = some (.int .i64 x.path) := cz 10
      clear cz
      obtain ⟨lx, cx, fx⟩ := OV7.out.blk
      have cx0 : w7.cell? ⟨X, 0, none⟩ = some (.int .i64 0) := cx 0
      have cx1 : w7.cell? ⟨X, 1, none⟩ = some (.int .i64 0) := cx 1
      have cx2 : w7.cell? ⟨X, 2, none⟩ = some (.int .i64 0) := cx 2
      have cx3 : w7.cell? ⟨X, 3, none⟩ = some (.int .i64 0) := cx 3
      have cx4 : w7.cell? ⟨X, 4, none⟩ = some (.int .u64 0) := cx 4
      have cx5 : w7.cell? ⟨X, 5, none⟩ = some (.int .i64 0) := cx 5
      have cx6 : w7.cell? ⟨X, 6, none⟩ = some (.int .i64 0) := cx 6
      have cx7 : w7.cell? ⟨X, 7, none⟩ = some (.int .i64 0) := cx 7
      have cx8 : w7.cell? ⟨X, 8, none⟩ = some (.int .i64 0) := cx 8
      have cx9 : w7.cell? ⟨X, 9, none⟩ = some (.slice none 0 0) := cx 9
      have cx10 : w7.cell? ⟨X, 10, none⟩ = some (.int .i64 0) := cx 10
      clear cx
      go_wp2_with fail
      have hw : (((((((((((w7.setCell ⟨X, 0, none⟩ (.int .i64 x.kind)).setCell ⟨X, 1, none⟩ (.int .i64 x.src)).setCell ⟨X, 2, none⟩ (.int .i64 x.dst)).setCell ⟨X, 3, none⟩ (.int .i64 x.prio)).setCell ⟨X, 4, none⟩ (.int .u64 x.msg)).setCell ⟨X, 5, none⟩ (.int .i64 x.off)).setCell ⟨X, 6, none⟩ (.int .i64 x.len)).setCell ⟨X, 7, none⟩ (.int .i64 x.total)).setCell ⟨X, 8, none⟩ (.int .i64 x.num)).setCell ⟨X, 9, none⟩ (.slice x.da x.dn x.dc)).setCell ⟨X, 10, none⟩ (.int .i64 x.path)) = w7.setCells X 0 [.int .i64 x.kind, .int .i64 x.src, .int .i64 x.dst, .int .i64 x.prio, .int .u64 x.msg, .int .i64 x.off, .int .i64 x.len, .int .i64 x.total, .int .i64 x.num, .slice x.da x.dn x.dc, .int .i64 x.path] := rfl
      rw [hw]
      clear hw cx0 cx1 cx2 cx3 cx4 cx5 cx6 cx7 cx8 cx9 cx10 cz0 cz1 cz2 cz3 cz4 cz5 cz6 cz7 cz8 cz9 cz10 lz fz lx fx
      have OF := Lib.hid (OV7.out.sets [.int .i64 x.kind, .int .i64 x.src, .int .i64 x.dst, .int .i64 x.prio, .int .u64 x.msg, .int .i64 x.off, .int .i64 x.len, .int .i64 x.total, .int .i64 x.num, .slice x.da x.dn x.dc, .int .i64 x.path] rfl)
      obtain ⟨r1, r2, r3⟩ := R6.out
      have KF : Hid (Kept (Only X) w7 (w7.setCells X 0 [.int .i64 x.kind, .int .i64 x.src, .int .i64 x.dst, .int .i64 x.prio, .int .u64 x.msg, .int .i64 x.off, .int .i64 x.len, .int .i64 x.total, .int .i64 x.num, .slice x.da x.dn x.dc, .int .i64 x.path])) := Lib.hid ((Kept.refl (Only X) w7).setsO (X := X) (show X = X from rfl) _)
      have PF := Lib.hid (r1.local KF.out OV7.out.ty (fun hh => hgX (show X = g from (Option.some.inj hh).symm)))
      have K07 := ((Kept.of_below (M := PM b l) (HB2.out.trans (B3.out.mono HB2.out.size))).trans (KA.out.mono fun y _ hy => hy.elim)).trans r2
      have hs5 : w.heap.size ≤ w5.heap.size := Nat.le_trans HB2.out.size (Nat.le_trans B3.out.size KA.out.size)
      have KW := Lib.hid (K07.setsN (X := X) (Nat.le_of_eq HX.out) [.int .i64 x.kind, .int .i64 x.src, .int .i64 x.dst, .int .i64 x.prio, .int .u64 x.msg, .int .i64 x.off, .int .i64 x.len, .int .i64 x.total, .int .i64 x.num, .slice x.da x.dn x.dc, .int .i64 x.path])
      clear K07 r1 r2
      generalize w7.setCells X 0 [.int .i64 x.kind, .int .i64 x.src, .int .i64 x.dst, .int .i64 x.prio, .int .u64 x.msg, .int .i64 x.off, .int .i64 x.len, .int .i64 x.total, .int .i64 x.num, .slice x.da x.dn x.dc, .int .i64 x.path] = F at *
      obtain ⟨lf, cf, ff⟩ := OF.out.blk
      have cf0 : F.cell? ⟨X, 0, none⟩ = some (.int .i64 x.kind) := cf 0
      have cf1 : F.cell? ⟨X, 1, none⟩ = some (.int .i64 x.src) := cf 1
      have cf2 : F.cell? ⟨X, 2, none⟩ = some (.int .i64 x.dst) := cf 2
      have cf3 : F.cell? ⟨X, 3, none⟩ = some (.int .i64 x.prio) := cf 3
      have cf4 : F.cell? ⟨X, 4, none⟩ = some (.int .u64 x.msg) := cf 4
      have cf5 : F.cell? ⟨X, 5, none⟩ = some (.int .i64 x.off) := cf 5
      have cf6 : F.cell? ⟨X, 6, none⟩ = some (.int .i64 x.len) := cf 6
      have cf7 : F.cell? ⟨X, 7, none⟩ = some (.int .i64 x.total) := cf 7
      have cf8 : F.cell? ⟨X, 8, none⟩ = some (.int .i64 x.num) := cf 8
      have cf9 : F.cell? ⟨X, 9, none⟩ = some (.slice x.da x.dn x.dc) := cf 9
      have cf10 : F.cell? ⟨X, 10, none⟩ = some (.int .i64 x.path) := cf 10
      clear cf
      refine done (.tuple #[boxV x, .bool true]) rfl (by simp [boxV, results, Try.results46, go_sem, cf0, cf1, cf2, cf3, cf4, cf5, cf6, cf7, cf8, cf9, cf10]) (.inr ⟨j, hjC, HJ.out, by rw [HXX.out], _, PF.out, KW.out, fun z hz => ?_⟩)
      rcases r3 z hz with h | h
      · exact .inl h
      · exact .inr (Nat.le_trans hs5 h)
end Go.Proofs.Ytoihhidoafgoaaa
/- A port (chapter 13): Put whatever comes; Twice, Double. -/
namespace Go.Proofs.Ytoihhidoafgoaaa
open Go.RowKit

theorem plain_data (x : It) (a : Option Addr) (c : Nat) : (x.data a c).plain = x.plain := rfl
theorem It.sz_plain {x y : It} (h : y.plain = x.plain) : y.sz = x.sz := by
  have h1 : y.kind = x.kind := show y.plain.kind = x.plain.kind from congrArg It.kind h
  have h2 : y.len = x.len := show y.plain.len = x.plain.len from congrArg It.len h
  unfold It.sz It.bytes
  rw [h1, h2]
def It.ok (x : It) : Prop := x.dn ≤ 1073741824 ∧ -1000000000 ≤ x.len ∧ x.len ≤ 1073741824
theorem It.ok_plain {x y : It} (h : y.plain = x.plain) (hx : x.ok) : y.ok := by
  have h1 : y.dn = x.dn := show y.plain.dn = x.plain.dn from congrArg It.dn h
  have h2 : y.len = x.len := show y.plain.len = x.plain.len from congrArg It.len h
  unfold It.ok at *
  rw [h1, h2]
  exact hx
def sumZ (l : List It) : Int := (l.map It.sz).sum
theorem sumZ_app (l m : List It) : sumZ (l ++ m) = sumZ l + sumZ m := by simp [sumZ]
theorem sumZ_cons (x : It) (l : List It) : sumZ (x :: l) = x.sz + sumZ l := by simp [sumZ]
theorem sumZ_nil : sumZ [] = 0 := rfl
theorem sumZ_nn : ∀ l : List It, 0 ≤ sumZ l
  | [] => Int.le_refl _
  | x :: l => by rw [sumZ_cons]; have := sumZ_nn l; have := szIt x; omega
theorem sumZ_mem : ∀ {l : List It} {x : It}, x ∈ l → x.sz ≤ sumZ l
  | y :: l, x, h => by
    rw [sumZ_cons]
    have := sumZ_nn l
    have := szIt y
    rcases List.mem_cons.1 h with rfl | h
    · omega
    · have := sumZ_mem h; omega
def usum (L : Nat → List It) : Int := sumZ (L 0) + sumZ (L 1) + sumZ (L 2) + sumZ (L 3) + sumZ (L 4) + sumZ (L 5) + sumZ (L 6) + sumZ (L 7)
theorem usum_upd (L : Nat → List It) {i : Nat} (hi : i < 8) (l : List It) : usum (upd L i l) = usum L - sumZ (L i) + sumZ l := by
  rcases eight hi with rfl | rfl | rfl | rfl | rfl | rfl | rfl | rfl
  all_goals
    simp only [usum, upd]
    simp
    try omega
theorem usum_mem {L : Nat → List It} {i : Nat} (hi : i < 8) {x : It} (h : x ∈ L i) : x.sz ≤ usum L := by
  have h1 := sumZ_mem h
  have := sumZ_nn (L 0); have := sumZ_nn (L 1); have := sumZ_nn (L 2); have := sumZ_nn (L 3); have := sumZ_nn (L 4); have := sumZ_nn (L 5); have := sumZ_nn (L 6); have := sumZ_nn (L 7)
  unfold usum
  rcases eight hi with rfl | rfl | rfl | rfl | rfl | rfl | rfl | rfl
  all_goals omega
structure Pp.ok (N : Nat) (p : Pp) : Prop where
  room : 0 ≤ p.room ∧ p.room ≤ 1099511627776
  u : p.u ≤ p.room
  sum : p.u = usum p.L
  len : p.waits.length ≤ N
  items : ∀ x, p.has x → x.ok
section
variable {N : Nat} {p : Pp}
theorem Pp.ok.u0 (h : p.ok N) : 0 ≤ p.u := by
  rw [h.sum]
  have := sumZ_nn (p.L 0); have := sumZ_nn (p.L 1); have := sumZ_nn (p.L 2); have := sumZ_nn (p.L 3); have := sumZ_nn (p.L 4); have := sumZ_nn (p.L 5); have := sumZ_nn (p.L 6); have := sumZ_nn (p.L 7)
  unfold usum
  omega
theorem Pp.ok.lens (h : p.ok N) (hN : N ≤ 1000000) : p.lens := by
  have h1 := h.len
  unfold Pp.waits at h1
  rw [List.length_append] at h1
  refine ⟨fun i hi => ?_, by omega⟩
  have := line_le (L := p.L) hi
  omega
theorem Pp.ok.mono (h : p.ok N) {N' : Nat} (hN : N ≤ N') : p.ok N' := ⟨h.room, h.u, h.sum, Nat.le_trans h.len hN, h.items⟩
theorem mem_waits {x : It} (h : x ∈ p.waits) : p.has x := by
  rcases List.mem_append.1 h with h | h
  · obtain ⟨i, hi, h⟩ := wfrom_of h
    exact .inr ⟨i, hi, h⟩
  · exact .inl h
end
inductive PutRel (p : Pp) (x : It) : Int → Pp → Prop
  | full : x.kind = 11 → p.most ≤ p.C.length → PutRel p x 3 p
  | cred (y : It) : x.kind = 11 → (p.C.length : Int) < p.most → y.plain = x.plain → PutRel p x 1 { p with C := p.C ++ [y] }
  | line (y : It) (i : Nat) : x.kind ≠ 11 → i < 8 → clampI x.prio 0 7 = i → x.sz ≤ p.room - p.u → y.plain = x.plain → PutRel p x 1 { p with u := p.u + x.sz, L := upd p.L i (p.L i ++ [y]) }
  | drop : x.kind ≠ 11 → p.room - p.u < x.sz → (x.kind ≠ 1 ∨ p.trim = false ∨ p.room - p.u < 26) → PutRel p x 3 p
  | trim : x.kind = 1 → p.trim = true → p.room - p.u < x.sz → 26 ≤ p.room - p.u → PutRel p x 2 { p with u := p.u + 26, L := upd p.L 7 (p.L 7 ++ [x.hdr 7]) }
theorem hdr_sz (x : It) : (x.hdr 7).sz = 26 := sz_head (by decide : (7 : Int) ≠ 1)
theorem PutRel.ok {N : Nat} {p p' : Pp} {x : It} {r : Int} (h : PutRel p x r p') (hp : p.ok N) (hx : x.ok) : p'.ok (N + 1) := by
  have hl := hp.len
  have hw : ∀ (L : Nat → List It) (C : List It), ({ p with L := L, C := C } : Pp).waits = wfrom L 8 ++ C := fun _ _ => rfl
  cases h with
  | full => exact hp.mono (Nat.le_succ _)
  | drop => exact hp.mono (Nat.le_succ _)
  | cred y _ _ hy =>
    refine ⟨hp.room, hp.u, hp.sum, ?_, fun z hz => ?_⟩
    · show (wfrom p.L 8 ++ (p.C ++ [y])).length ≤ _
      unfold Pp.waits at hl
      simp only [List.length_append, List.length_singleton] at *
      omega
    · rcases hz with hz | hz
      · rcases List.mem_append.1 hz with hz | hz
        · exact hp.items z (.inl hz)
        · rw [List.mem_singleton.1 hz]; exact It.ok_plain hy hx
      · exact hp.items z (.inr hz)
  | line y i _ hi _ hf hy =>
    refine ⟨hp.room, by show p.u + x.sz ≤ p.room; omega, ?_, ?_, fun z hz => ?_⟩
    · show p.u + x.sz = usum (upd p.L i (p.L i ++ [y]))
      rw [usum_upd _ hi, sumZ_app, sumZ_cons, sumZ_nil, It.sz_plain hy, hp.sum]
      omega
    · show (wfrom (upd p.L i (p.L i ++ [y])) 8 ++ p.C).length ≤ _
      unfold Pp.waits at hl
      rw [List.length_append, wfrom_push _ _ hi]
      rw [List.length_append] at hl
      omega
    · rcases hz with hz | ⟨j, hj, hz⟩
      · exact hp.items z (.inl hz)
      · replace hz : z ∈ upd p.L i (p.L i ++ [y]) j := hz
        by_cases hji : j = i
        · subst hji
          rw [upd_same] at hz
          rcases List.mem_append.1 hz with hz | hz
          · exact hp.items z (.inr ⟨j, hj, hz⟩)
          · rw [List.mem_singleton.1 hz]; exact It.ok_plain hy hx
        · rw [upd_other _ _ hji] at hz
          exact hp.items z (.inr ⟨j, hj, hz⟩)
  | trim _ _ _ hf =>
    refine ⟨hp.room, by show p.u + 26 ≤ p.room; omega, ?_, ?_, fun z hz => ?_⟩
    · show p.u + 26 = usum (upd p.L 7 (p.L 7 ++ [x.hdr 7]))
      rw [usum_upd _ (by decide), sumZ_app, sumZ_cons, sumZ_nil, hdr_sz, hp.sum]
      omega
    · show (wfrom (upd p.L 7 (p.L 7 ++ [x.hdr 7])) 8 ++ p.C).length ≤ _
      unfold Pp.waits at hl
      rw [List.length_append, wfrom_push _ _ (by decide)]
      rw [List.length_append] at hl
      omega
    · rcases hz with hz | ⟨j, hj, hz⟩
      · exact hp.items z (.inl hz)
      · replace hz : z ∈ upd p.L 7 (p.L 7 ++ [x.hdr 7]) j := hz
        by_cases hji : j = 7
        · subst hji
          rw [upd_same] at hz
          rcases List.mem_append.1 hz with hz | hz
          · exact hp.items z (.inr ⟨7, hj, hz⟩)
          · rw [List.mem_singleton.1 hz]
            exact ⟨Nat.zero_le _, hx.2⟩
        · rw [upd_other _ _ hji] at hz
          exact hp.items z (.inr ⟨j, hj, hz⟩)
def PutAny (b B0 : Nat) (l : Pl) (p : Pp) (x : It) (w : World) (e : Ending) (w' : World) : Prop := ∃ r p', e = .returned (.int .i64 r) ∧ PoPost b B0 l p' w w' ∧ PutRel p x r p'
theorem put_any (b B0 : Nat) (l : Pl) (p : Pp) (N : Nat) (x : It) (w : World) (h : Po b B0 l p w) (hr : Rd w 1 (.slice x.da x.dn x.dc) x.dn (bcells x.bs)) (ho : p.ok N) (hN : N ≤ 1000000) (hx : x.ok) : Calls Try.prog 38 #[.pointer (some ⟨b, 0, none⟩), x.val] w (PutAny b B0 l p x w) := by
  have hl := ho.lens hN
  by_cases hk : x.kind = 11
  · have hkb : (x.kind == 11) = true := beq_iff_eq.2 hk
    by_cases hc : p.most ≤ (p.C.length : Int)
    · refine (put_cfull b B0 l p x w h hkb (decide_eq_true hc)).mono ?_
      rintro e w' ⟨rfl, hb⟩
      exact ⟨3, p, rfl, PoPost.same h hb, .full hk hc⟩
    · refine (put_cred b B0 l p x w h hr hx.1 hkb (decide_eq_false hc) hl.2).mono ?_
      rintro e w' ⟨rfl, a, c, hp⟩
      exact ⟨1, _, rfl, hp, .cred _ hk (by omega) (plain_data x a c)⟩
  · have hkb : (x.kind == 11) = false := beq_eq_false_iff_ne.2 hk
    obtain ⟨i, hi, hc⟩ : ∃ i : Nat, i < 8 ∧ clampI x.prio 0 7 = i := by
      refine ⟨(clampI x.prio 0 7).toNat, ?_, ?_⟩
      · unfold clampI
        split
        · decide
        · split <;> omega
      · unfold clampI
        split
        · rfl
        · split <;> omega
    by_cases hf : x.sz ≤ p.room - p.u
    · refine (put_line b B0 l p i x w h hr hx.1 hkb hx.2 hi hc ho.room ⟨ho.u0, ho.u⟩ hf (hl.1 i hi)).mono ?_
      rintro e w' ⟨rfl, a, c, hp⟩
      exact ⟨1, _, rfl, hp, .line _ i hk hi hc hf (plain_data x a c)⟩
    · by_cases hd : x.kind ≠ 1 ∨ p.trim = false
      · refine (put_drop b B0 l p i x w h hr hx.1 hkb hx.2 hi hc ho.room ⟨ho.u0, ho.u⟩ (by omega) ?_).mono ?_
        · by_cases hk1 : x.kind = 1
          · rcases hd with hd | hd
            · exact absurd hk1 hd
            · exact .inr ⟨beq_iff_eq.2 hk1, hd⟩
          · exact .inl (beq_eq_false_iff_ne.2 hk1)
        · rintro e w' ⟨rfl, hb⟩
          exact ⟨3, p, rfl, PoPost.same h hb, .drop hk (by omega) (hd.elim (fun h => .inl h) (fun h => .inr (.inl h)))⟩
      · have hk1 : x.kind = 1 := by
          by_cases hk1 : x.kind = 1
          · exact hk1
          · exact absurd (.inl hk1) hd
        have ht : p.trim = true := by
          cases htt : p.trim with
          | true => rfl
          | false => exact absurd (.inr htt) hd
        by_cases hf2 : 26 ≤ p.room - p.u
        · refine (put_trim b B0 l p i x w h hr hx.1 hkb hx.2 hi hc ho.room ⟨ho.u0, ho.u⟩ (by omega) hk1 ht hf2 (hl.1 7 (by decide))).mono ?_
          rintro e w' ⟨rfl, hp⟩
          exact ⟨2, _, rfl, hp, .trim hk1 ht (by omega) hf2⟩
        · refine (put_trimno b B0 l p i x w h hr hx.1 hkb hx.2 hi hc ho.room ⟨ho.u0, ho.u⟩ (by omega) hk1 ht (by omega)).mono ?_
          rintro e w' ⟨rfl, hb⟩
          exact ⟨3, p, rfl, PoPost.same h hb, .drop hk (by omega) (.inr (.inr (by omega)))⟩
end Go.Proofs.Ytoihhidoafgoaaa
/- A port (chapter 13): Twice, Double. -/
namespace Go.Proofs.Ytoihhidoafgoaaa
open Go.RowKit

theorem Like.nth {Y W : List It} (h : Like Y W) (j : Nat) (hj : j < Y.length) : ∃ hW : j < W.length, (Y[j]).plain = (W[j]).plain := by
  have hl := h.len
  refine ⟨by omega, ?_⟩
  unfold Like at h
  have h1 := congrArg (fun l => l[j]?) h
  simp only [List.getElem?_map] at h1
  rw [List.getElem?_eq_getElem hj, List.getElem?_eq_getElem (by omega)] at h1
  simpa using h1
theorem twice_no (b B0 : Nat) (l : Pl) (p : Pp) (k : Int) (w : World) (h : Po b B0 l p w) (hl : p.lens) (hk : k < 0 ∨ (p.waits.length : Int) ≤ k) : Calls Try.prog 56 #[.pointer (some ⟨b, 0, none⟩), .int .i64 k] w fun e w' => e = .returned (.tuple #[.int .i64 0, .bool false]) ∧ Below w.heap.size w w' := by
  have hk2 : k < 0 ∨ (0 ≤ k ∧ (p.waits.length : Int) ≤ k) := by omega
  have HP := Lib.hid h
  have HL := Lib.hid hl
  clear h hl hk
  rcases hk2 with hk | ⟨hk, hk2⟩
  · go_enter Try.func56, Try.ntmps56
    go_wp2_with fail
    go_ret2
    exact ⟨rfl, Below.refl _ _⟩
  · go_enter Try.func56, Try.ntmps56
    go_wp2_with fail
    refine (len_pt b B0 l p w HP.out HL.out).mono ?_
    rintro e w2 ⟨rfl, hm⟩
    have HB2 : Hid (Below w.heap.size w w2) := by obtain ⟨m, rfl⟩ := hm; exact Lib.hid (below_dn (Below.refl _ _))
    clear hm
    go_wp2_with fail
    go_ret2
    exact ⟨rfl, HB2.out⟩
def TwicePost (b B0 : Nat) (l : Pl) (p : Pp) (k : Nat) (hk : k < p.waits.length) (w : World) (e : Ending) (w' : World) : Prop := ∃ y r p', y.plain = (p.waits[k]).plain ∧ e = .returned (.tuple #[.int .i64 r, .bool true]) ∧ PoPost b B0 l p' w w' ∧ PutRel p y r p'
set_option maxRecDepth 100000 in
set_option maxHeartbeats 4000000 in
theorem twice_yes (b B0 : Nat) (l : Pl) (p : Pp) (N k : Nat) (w : World) (h : Po b B0 l p w) (ho : p.ok N) (hN : N ≤ 1000000) (hk : k < p.waits.length) : Calls Try.prog 56 #[.pointer (some ⟨b, 0, none⟩), .int .i64 k] w (TwicePost b B0 l p k hk w) := by
  have HP := Lib.hid h
  have HL := Lib.hid (ho.lens hN)
  have HO := Lib.hid ho
  have hkN : k ≤ 1000000 := by have := ho.len; omega
  have hk0 : ¬ (k : Int) < 0 := by omega
  clear h ho
  go_enter Try.func56, Try.ntmps56
  go_wp2_with fail
  refine (len_pt b B0 l p w HP.out HL.out).mono ?_
  rintro e w2 ⟨rfl, hm⟩
  have HB2 : Hid (Below w.heap.size w w2) := by obtain ⟨m, rfl⟩ := hm; exact Lib.hid (below_dn (Below.refl _ _))
  have P2 := Lib.hid (HP.out.below HB2.out)
  clear hm
  go_wp2_with fail
  refine (wait_pt b B0 l p w2 P2.out HL.out.1 HL.out.2 (fun x hx => (HO.out.items x hx).1)).mono ?_
  rintro e w3 ⟨v, rfl, ⟨Y, hY, hov, hd⟩, hb3⟩
  obtain ⟨av, cv, rfl, _, _⟩ := (Rd.of_own hov).form
  have P3 := Lib.hid (P2.out.below hb3)
  have B3 := Lib.hid (HB2.out.trans (hb3.mono HB2.out.size))
  have hkY : k < Y.length := by rw [hY.len]; exact hk
  obtain ⟨hW, hpl⟩ := hY.nth k hkY
  obtain ⟨g, o, hgo, hg, hc⟩ := (Rd.of_own hov).row rowIt (by decide) k hkY
  cases hgo
  have hdy := hd _ (List.getElem_mem hkY)
  generalize Y[k] = y at hc hpl hdy
  have c0 := hc 0 _ rfl
  have c1 := hc 1 _ rfl
  have c2 := hc 2 _ rfl
  have c3 := hc 3 _ rfl
  have c4 := hc 4 _ rfl
  have c5 := hc 5 _ rfl
  have c6 := hc 6 _ rfl
  have c7 := hc 7 _ rfl
  have c8 := hc 8 _ rfl
  have c9 := hc 9 _ rfl
  have c10 := hc 10 _ rfl
  rw [Nat.add_zero] at c0
  have HPL := Lib.hid hpl
  have HY := Lib.hid hY
  have hyo : y.ok := It.ok_plain hpl (HO.out.items _ (mem_waits (List.getElem_mem hk)))
  have HYO := Lib.hid hyo
  have HDY := Lib.hid (Rd.of_own hdy)
  clear hc hov hd hb3 hY hpl hyo hdy
  go_wp2_with fail
  refine (put_any b B0 l p N y w3 P3.out HDY.out HO.out hN HYO.out).mono ?_
  rintro e w4 ⟨r, p', rfl, hp, hrel⟩
  have HP4 := Lib.hid (hp.before B3.out)
  have HR := Lib.hid hrel
  clear hp hrel
  go_wp2_with fail
  go_ret2
  exact ⟨y, r, p', HPL.out, rfl, HP4.out, HR.out⟩
end Go.Proofs.Ytoihhidoafgoaaa
