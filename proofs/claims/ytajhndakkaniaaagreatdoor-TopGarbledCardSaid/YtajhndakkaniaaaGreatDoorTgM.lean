/- Memory under names between calls: what is not named is kept; a cell whose value is known is told; what an evaluated call says. General: no program in sight. -/
import Derived.Test.YtajhndakkaniaaaGreatDoorFzM
import Derived.Test.YtajhndakkaniaaaGreatDoorOrd
import Derived.Test.YtajhndakkaniaaaGreatDoorTopFM
import Derived.Test.YtajhndakkaniaaaGreatDoorWireDec
import Derived.WalkKit
import Derived.Test.YtajhndakkaniaaaGreatDoorWirePlain
namespace Go.Proofs.YtajhndakkaniaaaGreatDoor
open Go

namespace Ev
abbrev inTV (n : Int) : TV := .s (.c (.k (.int .i64 n)))
section
variable {P : Program} {B : Nat} {φ φ' : Ren} {H H' K : Hp} {w w' : World}
/-- the blocks that are named -/
def Named (H : Hp) (φ : Ren) (b : Nat) : Prop := ∃ x o l, H.t.get x = some o ∧ φ x = some l ∧ l.b = b
theorem Ext.kept (hx : Ext P B φ H w φ' H' w') : Kept (Named H φ) w w' := ⟨hx.os, hx.tape, hx.output, hx.size, fun b hb hn => hx.frame b hb fun x o l h1 h2 h3 => hn ⟨x, o, l, h1, h2, h3⟩⟩
theorem Ext.off (hx : Ext P B φ H w φ' H' w') {g : Nat} (hg : g < w.heap.size) (hn : ¬ Named H φ g) : ¬ Named H' φ' g := by
  rintro ⟨x, o, l, h1, h2, h3⟩
  rcases hx.own x o l h1 h2 with ⟨y, q, k, k1, k2, k3⟩ | k1
  · exact hn ⟨y, q, k, k1, k2, k3.trans h3⟩
  · omega
theorem Named.sub {g : Nat} (hs : subH K H = true) (h : Named K φ g) : Named H φ g := by
  unfold subH at hs
  rw [Bool.and_eq_true] at hs
  obtain ⟨x, o, l, h1, h2, h3⟩ := h
  obtain ⟨b, k1, _⟩ := subT_ok hs.1 h1
  exact ⟨x, b, l, k1, h2, h3⟩
theorem SR.named_lt (h : SR P B φ H w) {g : Nat} (hn : Named H φ g) : g < w.heap.size := by
  obtain ⟨x, o, l, h1, h2, h3⟩ := hn
  rw [← h3]
  exact h.lt h1 h2
theorem SR.named_ge (h : SR P B φ H w) {g : Nat} (hn : Named H φ g) : B ≤ g := by
  obtain ⟨x, o, l, h1, h2, h3⟩ := hn
  obtain ⟨l', _, k1, _, _, k4⟩ := h.live x o h1
  rw [h2] at k1
  cases k1
  rw [← h3]
  exact k4
/-- one cell more is told -/
noncomputable def Hp.more (K : Hp) (x : Bn) (q : CV) : Hp := match K.t.get x with
  | some (.cells T st c) => K.set x (.cells T st (c ++ [q]))
  | _ => K
theorem more_ok (h : SR P B φ K w) {x : Bn} {T : TypeId} {st : Bool} {c : List CV} {l : Loc} {q : CV} {v : Value} {i : TypeInfo} (hx : K.cells x = some (T, st, c)) (hl : φ x = some l) (hi : P.info? T = some i) (hn : ∀ n, c.length ≤ n * i.size → c.length + 1 ≤ n * i.size) (hc : w.cell? ⟨l.b, l.s + c.length, none⟩ = some v) (hq : cvV φ q = some v) : SR P B φ (K.more x q) w := by
  obtain ⟨l', c0, fz, i', h1, h2, h3, h4, h5, h6, h7, h8⟩ := h.block hx
  rw [hl] at h1
  cases h1
  rw [hi] at h3
  cases h3
  unfold Hp.more
  rw [Hp.cells_get hx]
  refine (h.put (a := .cells T st (c ++ [q])) (w' := w) (Hp.cells_get hx) hl h2 (fun _ _ => rfl) rfl ⟨rfl, rfl, rfl⟩ ⟨c0, fz, i, rfl, hi, h4, ?_, h6, fun j p hp => ?_⟩).sr
  · rw [List.length_append, List.length_singleton]
    exact ⟨hn _ h5.1, h5.2⟩
  · by_cases e : j < c.length
    · rw [List.getElem?_append_left e] at hp
      exact h7 j p hp
    · rw [List.getElem?_append_right (by omega)] at hp
      have e0 : j - c.length = 0 := by
        by_cases e0 : j - c.length = 0
        · exact e0
        · rw [List.getElem?_eq_none (by rw [List.length_singleton]; omega)] at hp
          cases hp
      rw [e0, List.getElem?_cons_zero] at hp
      cases hp
      have : j = c.length := by omega
      rw [this]
      rw [cell_of h2] at hc
      exact ⟨v, hc, hq⟩
theorem Hp.more_other {x y : Bn} {q : CV} (h : y ≠ x) : (K.more x q).cells y = K.cells y := by
  unfold Hp.more
  split
  · unfold Hp.cells
    rw [show (K.set x _).t.get y = K.t.get y from Tr.get_other _ _ _ _ h]
  · rfl
/-- a cell of a named block -/
theorem at_ok (h : SR P B φ H w) {x : Bn} {T : TypeId} {st : Bool} {cs : List CV} {j : Nat} {c : CV} (hx : H.cells x = some (T, st, cs)) (hc : nth cs j = some c) : ∃ l v, φ x = some l ∧ w.cell? ⟨l.b, l.s + j, none⟩ = some v ∧ cvV φ c = some v := by
  obtain ⟨l, arr, fz, i, h1, h2, _, _, _, _, h7, _⟩ := h.block hx
  rw [nth_eq] at hc
  obtain ⟨v, k1, k2⟩ := h7 j c hc
  exact ⟨l, v, h1, by rw [cell_of h2]; exact k1, k2⟩
end
noncomputable def svEq : SV → SV → Bool
  | .c a, .c b => cvEq a b
  | .a l, .a m => cvsEq l m
  | _, _ => false
noncomputable def svsEq1 : List SV → List SV → Bool
  | [], [] => true
  | a :: l, b :: m => svEq a b && svsEq1 l m
  | _, _ => false
noncomputable def tv1Eq : TV → TV → Bool
  | .s a, .s b => svEq a b
  | .t l, .t m => svsEq1 l m
  | _, _ => false
theorem svEq_ok : ∀ {a b : SV}, svEq a b = true → a = b
  | .c a, .c b, h => by rw [cvEq_ok (a := a) (b := b) h]
  | .a l, .a m, h => by rw [cvsEq_ok (a := l) (b := m) h]
  | .c _, .a _, h => by cases h
  | .a _, .c _, h => by cases h
theorem svsEq1_ok : ∀ {l m : List SV}, svsEq1 l m = true → l = m
  | [], [], _ => rfl
  | [], _ :: _, h => by cases h
  | _ :: _, [], h => by cases h
  | a :: l, b :: m, h => by
    simp only [svsEq1, Bool.and_eq_true] at h
    rw [svEq_ok h.1, svsEq1_ok h.2]
theorem tv1Eq_ok : ∀ {a b : TV}, tv1Eq a b = true → a = b
  | .s a, .s b, h => by rw [svEq_ok (a := a) (b := b) h]
  | .t l, .t m, h => by rw [svsEq1_ok (l := l) (m := m) h]
  | .i _ _, .s _, h => by cases h
  | .i _ _, .t _, h => by cases h
  | .i _ _, .i _ _, h => by cases h
  | .s _, .t _, h => by cases h
  | .s _, .i _ _, h => by cases h
  | .t _, .s _, h => by cases h
  | .t _, .i _ _, h => by cases h
/-- an evaluated call that came to its end -/
noncomputable def ok2 (r : Option (TV × Hp)) (f : TV → Hp → Bool) : Bool := match r with
  | some (v, H) => f v H
  | none => false
theorem ok2_ok {r : Option (TV × Hp)} {f : TV → Hp → Bool} (h : ok2 r f = true) : ∃ v H, r = some (v, H) ∧ f v H = true := by
  unfold ok2 at h
  split at h
  · exact ⟨_, _, rfl, h⟩
  · cases h
/-- three rows' next cells -/
noncomputable def mor3 (K : Hp) (h0 h1 h2 : Bn) (b0 b1 b2 : Int) : Hp := ((K.more h0 (.k (.int .i64 b0))).more h1 (.k (.int .i64 b1))).more h2 (.k (.int .i64 b2))
noncomputable def cellN (H : Hp) (h : Bn) (n : Nat) : Option CV := match H.t.get h with
  | some (.cells _ _ l) => nth l n
  | _ => none
theorem cellN_ok {H : Hp} {h : Bn} {n : Nat} {c : CV} (e : cellN H h n = some c) : ∃ T st l, H.cells h = some (T, st, l) ∧ nth l n = some c := by
  unfold cellN at e
  split at e
  · rename_i T st l e1
    exact ⟨T, st, l, by unfold Hp.cells; rw [e1], e⟩
  · cases e
/-- a call over memory whose rows have a cell more: what it tells without them, and these -/
noncomputable def runM (ev : Cl) (f : FuncId) (l : List TV) (h0 h1 h2 : Bn) (n : Nat) (K K' : Hp) (b0 b1 b2 : Int) : Bool × Option CV × Option CV × Option CV := match ev f l (mor3 K h0 h1 h2 b0 b1 b2) with
  | some (_, H') => (subH K' H', cellN H' h0 n, cellN H' h1 n, cellN H' h2 n)
  | none => (false, none, none, none)
/-- the same, where memory is the same again -/
noncomputable def runB (ev : Cl) (f : FuncId) (l : List TV) (h0 h1 h2 : Bn) (n : Nat) (K : Hp) (b0 b1 b2 : Int) : Bool × Option CV × Option CV × Option CV := match ev f l (mor3 K h0 h1 h2 b0 b1 b2) with
  | some (_, H') => (subT K.t H'.t, cellN H' h0 n, cellN H' h1 n, cellN H' h2 n)
  | none => (false, none, none, none)
abbrev doneM (b0 b1 b2 : Int) : Bool × Option CV × Option CV × Option CV := (true, some (.k (.int .i64 b0)), some (.k (.int .i64 b1)), some (.k (.int .i64 b2)))
theorem runM_ok {ev : Cl} {f : FuncId} {l : List TV} {h0 h1 h2 : Bn} {n : Nat} {K K' : Hp} {b0 b1 b2 : Int} (h : runM ev f l h0 h1 h2 n K K' b0 b1 b2 = doneM b0 b1 b2) :
    ∃ v H', ev f l (mor3 K h0 h1 h2 b0 b1 b2) = some (v, H') ∧ subH K' H' = true ∧ cellN H' h0 n = some (.k (.int .i64 b0)) ∧ cellN H' h1 n = some (.k (.int .i64 b1)) ∧ cellN H' h2 n = some (.k (.int .i64 b2)) := by
  unfold runM at h
  split at h
  · rename_i v H' e
    simp only [Prod.mk.injEq] at h
    exact ⟨v, H', e, h.1, h.2.1, h.2.2.1, h.2.2.2⟩
  · simp at h
theorem runB_ok {ev : Cl} {f : FuncId} {l : List TV} {h0 h1 h2 : Bn} {n : Nat} {K : Hp} {b0 b1 b2 : Int} (h : runB ev f l h0 h1 h2 n K b0 b1 b2 = doneM b0 b1 b2) :
    ∃ v H', ev f l (mor3 K h0 h1 h2 b0 b1 b2) = some (v, H') ∧ subT K.t H'.t = true ∧ cellN H' h0 n = some (.k (.int .i64 b0)) ∧ cellN H' h1 n = some (.k (.int .i64 b1)) ∧ cellN H' h2 n = some (.k (.int .i64 b2)) := by
  unfold runB at h
  split at h
  · rename_i v H' e
    simp only [Prod.mk.injEq] at h
    exact ⟨v, H', e, h.1, h.2.1, h.2.2.1, h.2.2.2⟩
  · simp at h
/-- a named block's cell holds a number -/
def NumAt (φ : Ren) (h : Bn) (n : Nat) (w : World) (b : Int) : Prop := ∃ l, φ h = some l ∧ w.cell? ⟨l.b, l.s + n, none⟩ = some (.int .i64 b)
theorem NumAt.of {P : Program} {B : Nat} {φ : Ren} {H : Hp} {w : World} (h : SR P B φ H w) {x : Bn} {n : Nat} {b : Int} (e : cellN H x n = some (.k (.int .i64 b))) : NumAt φ x n w b := by
  obtain ⟨T, st, cs, h1, h2⟩ := cellN_ok e
  obtain ⟨l, v, k1, k2, k3⟩ := at_ok h h1 h2
  cases k3
  exact ⟨l, k1, k2⟩
/-- a host's row: so many cells are told, of a type that has one more -/
noncomputable def rowN (K : Hp) (h : Bn) (T n : Nat) : Bool := match K.t.get h with
  | some (.cells T' false l) => Nat.beq T T' && Nat.beq l.length n
  | _ => false
theorem rowN_ok {K : Hp} {h : Bn} {T n : Nat} (e : rowN K h T n = true) : ∃ l, K.cells h = some (T, false, l) ∧ l.length = n := by
  unfold rowN at e
  split at e
  · rename_i T' l e1
    rw [Bool.and_eq_true] at e
    refine ⟨l, ?_, nb e.2⟩
    unfold Hp.cells
    rw [e1, nb e.1]
  · cases e
theorem more3_ok {P : Program} {B : Nat} {φ : Ren} {K : Hp} {w : World} (h : SR P B φ K w) {h0 h1 h2 : Bn} {T n : Nat} {i : TypeInfo} (hi : P.info? T = some i) (hs : i.size = n + 1) (hn : 1 ≤ n) {b0 b1 b2 : Int} (r0 : rowN K h0 T n = true) (r1 : rowN K h1 T n = true) (r2 : rowN K h2 T n = true) (n01 : h1 ≠ h0) (n02 : h2 ≠ h0) (n12 : h2 ≠ h1) (c0 : NumAt φ h0 n w b0) (c1 : NumAt φ h1 n w b1) (c2 : NumAt φ h2 n w b2) : SR P B φ (mor3 K h0 h1 h2 b0 b1 b2) w := by
  obtain ⟨l0, x0, y0⟩ := rowN_ok r0
  obtain ⟨l1, x1, y1⟩ := rowN_ok r1
  obtain ⟨l2, x2, y2⟩ := rowN_ok r2
  obtain ⟨a0, p0, q0⟩ := c0
  obtain ⟨a1, p1, q1⟩ := c1
  obtain ⟨a2, p2, q2⟩ := c2
  have room : ∀ m, n ≤ m * i.size → n + 1 ≤ m * i.size := fun m hm => by
    rw [hs] at hm ⊢
    cases m with
    | zero => omega
    | succ m =>
      rw [Nat.succ_mul]
      omega
  have s0 := more_ok h (q := .k (.int .i64 b0)) x0 p0 hi (by rw [y0]; exact room) (by rw [y0]; exact q0) rfl
  have s1 := more_ok s0 (q := .k (.int .i64 b1)) ((Hp.more_other n01).trans x1) p1 hi (by rw [y1]; exact room) (by rw [y1]; exact q1) rfl
  exact more_ok s1 (q := .k (.int .i64 b2)) ((Hp.more_other n12).trans ((Hp.more_other n02).trans x2)) p2 hi (by rw [y2]; exact room) (by rw [y2]; exact q2) rfl
end Ev
end Go.Proofs.YtajhndakkaniaaaGreatDoor
/- A host takes bytes that are none: it counts them, and nothing else happens. -/
namespace Go.Proofs.YtajhndakkaniaaaGreatDoor
open Go.RowKit

theorem cell_lt {w : World} {b o : Nat} {v : Value} (h : w.cell? ⟨b, o, none⟩ = some v) : b < w.heap.size := by
  rcases Nat.lt_or_ge b w.heap.size with e | e
  · exact e
  · simp [World.cell?, Array.getElem?_eq_none e] at h
abbrev THost : TypeId := 125
theorem host_in (b s yb yo j n cap xb xo : Nat) (w : World) (hj : j < n) (_hn : n ≤ 1000000) (hf : w.cell? ⟨b, s + 14, none⟩ = some (.slice (some ⟨yb, yo, none⟩) n cap)) (hx : w.cell? ⟨yb, yo + j, none⟩ = some (.pointer (some ⟨xb, xo, none⟩))) :
    Calls Tryz.prog 25 #[.pointer (some ⟨b, s, none⟩), .int .i64 j] w fun e w' => e = .returned (.pointer (some ⟨xb, xo, none⟩)) ∧ w' = w := by
  have g1 : ¬ ((j : Int) < 0) := by omega
  have g2 : ¬ ((n : Int) ≤ j) := by omega
  go_enter Tryz.func25, Tryz.ntmps25
  go_wp2_with fail
  go_ret
  exact ⟨rfl, rfl⟩
theorem none_no (b s : Nat) (t : TypeId) (v : Value) (w : World) (hf : w.cell? ⟨b, s + 14, none⟩ = some (.iface t v)) :
    Calls Tryz.prog 60 #[.pointer (some ⟨b, s, none⟩)] w fun e w' => e = .returned (.bool false) ∧ w' = w := by
  go_enter Tryz.func60, Tryz.ntmps60
  go_wp2_with fail
  go_ret
  exact ⟨rfl, rfl⟩
set_option maxHeartbeats 2000000 in
/-- bytes that are no frame -/
theorem in_bad (b s : Nat) (t : TypeId) (u : Value) (k : Int) (l : List UInt8) (v : Value) (w : World) (h : Rd w 1 v l.length (bcells l)) (hbad : ¬ goodB l) (hf : w.cell? ⟨b, s + 14, none⟩ = some (.iface t u)) (hc : w.cell? ⟨b, s + 16, none⟩ = some (.int .i64 k)) (hz : w.frozen? ⟨b, s + 16, none⟩ = false) :
    Calls Tryz.prog 38 #[.pointer (some ⟨b, s, none⟩), v] w fun e w' => ∃ w1 k', e = .returned (.bool false) ∧ Below w.heap.size w w1 ∧ Below (w1.setCell ⟨b, s + 16, none⟩ (.int .i64 k')).heap.size (w1.setCell ⟨b, s + 16, none⟩ (.int .i64 k')) w' := by
  obtain ⟨v, cp, rfl, h1, h2⟩ := h.form
  have HR := Lib.hid h
  have hlt := cell_lt hc
  clear h
  go_enter Tryz.func38, Tryz.ntmps38
  go_wp2_with fail
  refine (none_no b s t u _ hf).mono ?_
  rintro e w1 ⟨rfl, rfl⟩
  go_wp2_with fail
  refine (decode_any l _ _ HR.out).mono ?_
  rintro e w2 ⟨⟨hg, _⟩ | ⟨_, rfl⟩, hb2⟩
  · exact absurd hg hbad
  have c2 : w2.cell? ⟨b, s + 16, none⟩ = some (.int .i64 k) := (hb2.cell (p := ⟨b, s + 16, none⟩) hlt).trans hc
  have z2 : w2.frozen? ⟨b, s + 16, none⟩ = false := ((bcell hb2).2 _ _ hlt).trans hz
  have HB := Lib.hid hb2
  clear hb2
  unfold zeroF
  have hl2 : b < w2.heap.size := cell_lt c2
  have hn2 : b ≠ w2.heap.size := Nat.ne_of_lt hl2
  go_wp2_with fail
  go_ret
  first
    | exact ⟨_, _, rfl, HB.out.alloc HB.out.size _, Below.refl _ _⟩
    | exact ⟨_, _, rfl, HB.out, (Below.refl _ _).alloc (Nat.le_refl _) _⟩
end Go.Proofs.YtajhndakkaniaaaGreatDoor
/- TopGarbled: what stands between the law's calls: three hosts, each with a count that nobody looks at. -/
namespace Go.Proofs.YtajhndakkaniaaaGreatDoor
open Go.RowKit

/-- the names of a world, of its row of hosts, of its hosts -/
structure Nm where
  x : Ev.Bn
  y : Ev.Bn
  e : Nat
  h0 : Ev.Bn
  h1 : Ev.Bn
  h2 : Ev.Bn
noncomputable def Nm.h (m : Nm) : Nat → Ev.Bn
  | 0 => m.h0
  | 1 => m.h1
  | _ => m.h2
structure Lay (m : Nm) (K : Ev.Hp) : Prop where
  ws : Ev.cellN K m.x 14 = some (.s m.y 0 0 3 m.e)
  p : ∀ i, i < 3 → Ev.cellN K m.y i = some (.p (m.h i) 0)
  r : ∀ i, i < 3 → Ev.rowN K (m.h i) THost 16 = true
  i : ∀ i, i < 3 → ∃ t y o, Ev.cellN K (m.h i) 14 = some (.i t y o)
  d : ∀ i j, i < 3 → j < 3 → m.h i = m.h j → i = j
theorem all3 {p : Nat → Prop} (h0 : p 0) (h1 : p 1) (h2 : p 2) : ∀ i, i < 3 → p i
  | 0, _ => h0
  | 1, _ => h1
  | 2, _ => h2
  | i + 3, h => absurd h (by omega)
structure Gs (B : Nat) (φ : Ev.Ren) (w0 : World) (m : Nm) (K : Ev.Hp) (ψ : Ev.Ren) (w : World) : Prop where
  at' : At B φ w0 K ψ w
  c : ∀ i, i < 3 → ∃ b, Ev.NumAt ψ (m.h i) 16 w b
theorem info_host : (Tryz.prog.info? THost).map (fun i => i.size) = some 17 := by kernel_rfl
theorem host_size : ∃ i, Tryz.prog.info? THost = some i ∧ i.size = 17 := by
  have h := info_host
  cases e : Tryz.prog.info? THost with
  | none => rw [e] at h; cases h
  | some i => rw [e] at h; injection h with h; exact ⟨i, rfl, h⟩
section
variable {B : Nat} {φ ψ : Ev.Ren} {w0 w : World} {m : Nm} {K : Ev.Hp}
theorem Gs.host (h : Gs B φ w0 m K ψ w) (hl : Lay m K) (j : Nat) (hj : j < 3) : ∃ (lx ly lh : Ev.Loc) (t : TypeId) (u : Value) (k : Int), ψ m.x = some lx ∧ w.cell? ⟨lx.b, lx.s + 14, none⟩ = some (.slice (some ⟨ly.b, ly.s + 0, none⟩) 3 ly.c) ∧ w.cell? ⟨ly.b, ly.s + 0 + j, none⟩ = some (.pointer (some ⟨lh.b, lh.s, none⟩)) ∧
    ψ (m.h j) = some lh ∧ w.cell? ⟨lh.b, lh.s + 14, none⟩ = some (.iface t u) ∧ w.cell? ⟨lh.b, lh.s + 16, none⟩ = some (.int .i64 k) ∧ w.frozen? ⟨lh.b, lh.s + 16, none⟩ = false := by
  have sr := h.at'.sr
  obtain ⟨T, st, cs, e1, e2⟩ := Ev.cellN_ok hl.ws
  obtain ⟨lx, v, x1, x2, x3⟩ := Ev.at_ok sr e1 e2
  simp only [Ev.cvV] at x3
  cases hy : ψ m.y with
  | none => rw [hy] at x3; cases x3
  | some ly =>
    rw [hy] at x3
    simp only at x3
    split at x3
    · rename_i hr
      cases x3
      rw [if_neg (by omega)] at x2
      obtain ⟨T, st, cs, e3, e4⟩ := Ev.cellN_ok (hl.p j hj)
      obtain ⟨ly', v, y1, y2, y3⟩ := Ev.at_ok sr e3 e4
      rw [hy] at y1
      cases y1
      simp only [Ev.cvV, Ev.ptrV] at y3
      obtain ⟨k, lh, h1, h2⟩ := h.c j hj
      rw [h1] at y3
      cases y3
      obtain ⟨t, zz, o, e5⟩ := hl.i j hj
      obtain ⟨T, st, cs, e6, e7⟩ := Ev.cellN_ok e5
      obtain ⟨lh', v, z1, z2, z3⟩ := Ev.at_ok sr e6 e7
      rw [h1] at z1
      cases z1
      simp only [Ev.cvV] at z3
      cases hz : Ev.ptrV ψ zz o with
      | none => rw [hz] at z3; cases z3
      | some u =>
        rw [hz] at z3
        cases z3
        obtain ⟨cs, q1, q2⟩ := Ev.rowN_ok (hl.r j hj)
        obtain ⟨lh', c, fz, i, k1, k2, k3, k4, k5, k6, _⟩ := sr.block q1
        rw [h1] at k1
        cases k1
        obtain ⟨i', i1, i2⟩ := host_size
        rw [i1] at k3
        cases k3
        rw [i2] at k4 k5
        refine ⟨lx, ly, lh, t, u, k, x1, by simpa using x2, by simpa using y2, h1, z2, h2, Ev.frozen_of k2 k6 (by omega)⟩
    · cases x3
theorem Gs.bump (h : Gs B φ w0 m K ψ w) (hl : Lay m K) (j : Nat) (hj : j < 3) {lh : Ev.Loc} (hh : ψ (m.h j) = some lh) (k : Int) : Gs B φ w0 m K ψ (w.setCell ⟨lh.b, lh.s + 16, none⟩ (.int .i64 k)) ∧ Kept (Ev.Named K ψ) w (w.setCell ⟨lh.b, lh.s + 16, none⟩ (.int .i64 k)) := by
  have sr := h.at'.sr
  obtain ⟨cs, q1, q2⟩ := Ev.rowN_ok (hl.r j hj)
  have hx := Ev.tail_ok (j := lh.s + 16) (u := .int .i64 k) sr q1 hh (by omega)
  refine ⟨⟨h.at'.ext hx, fun i hi => ?_⟩, hx.kept⟩
  obtain ⟨lh', c, fz, i', k1, k2, k3, k4, k5, k6, _⟩ := sr.block q1
  rw [hh] at k1
  cases k1
  obtain ⟨i2, i1, i3⟩ := host_size
  rw [i1] at k3
  cases k3
  rw [i3] at k4 k5
  have hlt : lh.b < w.heap.size := sr.lt (Ev.Hp.cells_get q1) hh
  by_cases e : i = j
  · subst e
    refine ⟨k, lh, hh, ?_⟩
    have hq : (w.setCell ⟨lh.b, lh.s + 16, none⟩ (.int .i64 k)).heap[lh.b]? = some (.cells (c.setIfInBounds (lh.s + 16) (.int .i64 k)) THost fz) := by
      show (w.heap.modify lh.b _)[lh.b]? = _
      have e1 := (Array.getElem?_eq_some_iff.1 k2).2
      rw [Array.getElem?_eq_getElem (by rw [Array.size_modify]; exact hlt), Array.getElem_modify_self, e1]
      rfl
    rw [Ev.cell_of hq, Array.getElem?_setIfInBounds, if_pos rfl, if_pos (by omega)]
  · obtain ⟨b, li, n1, n2⟩ := h.c i hi
    obtain ⟨ci, p1, _⟩ := Ev.rowN_ok (hl.r i hi)
    have hne : li.b ≠ lh.b := fun e2 => e (hl.d i j hi hj (sr.inj _ _ _ _ li lh (Ev.Hp.cells_get p1) (Ev.Hp.cells_get q1) n1 hh e2))
    refine ⟨b, li, n1, ?_⟩
    rw [← n2]
    exact World.cell?_of_block (w := w) (Ev.setCells_other lh.b [.int .i64 k] (lh.s + 16) w li.b hne)
theorem At.below (h : At B φ w0 K ψ w) {w' : World} (hb : Below w.heap.size w w') : At B φ w0 K ψ w' := h.ext (Ev.Ext.of_below h.sr hb)
theorem Gs.below (h : Gs B φ w0 m K ψ w) {w' : World} (hb : Below w.heap.size w w') : Gs B φ w0 m K ψ w' := ⟨h.at'.below hb, fun i hi => by
  obtain ⟨b, l, h1, h2⟩ := h.c i hi
  exact ⟨b, l, h1, (hb.cell (p := ⟨l.b, l.s + 16, none⟩) (cell_lt h2)).trans h2⟩⟩
set_option maxHeartbeats 2000000 in
/-- a host is given bytes that are no frame -/
theorem garble_gs (h : Gs B φ w0 m K ψ w) (hl : Lay m K) {l : Ev.Loc} (hx : φ m.x = some l) (j : Nat) (hj : j < 3) (L : List UInt8) (v : Value) (hv : Rd w 1 v L.length (bcells L)) (hbad : ¬ goodB L) :
    Calls Tryz.prog 17 #[.pointer (some ⟨l.b, l.s, none⟩), .int .i64 j, v] w fun e w' => e = .returned (.tuple #[.bool false, .int .i64 0]) ∧ Gs B φ w0 m K ψ w' ∧ Kept (Ev.Named K ψ) w w' := by
  obtain ⟨lx, ly, lh, t, u, k, f1, f2, f3, f4, f5, f6, f7⟩ := h.host hl j hj
  rw [h.at'.le _ _ hx] at f1
  cases f1
  have HG := Lib.hid h
  have HL := Lib.hid hl
  have HV := Lib.hid hv
  have H4 := Lib.hid f4
  clear h hl hv f4
  obtain ⟨v, cp, rfl, h1, h2⟩ := HV.out.form
  go_enter Tryz.func17, Tryz.ntmps17
  go_wp2_with fail
  refine (host_in l.b l.s ly.b (ly.s + 0) j 3 ly.c lh.b lh.s _ hj (by omega) f2 f3).mono ?_
  rintro e w1 ⟨rfl, rfl⟩
  go_wp2_with fail
  refine (in_bad lh.b lh.s t u k L _ _ HV.out hbad f5 f6 f7).mono ?_
  rintro e w4 ⟨w3, k', rfl, hb, hb'⟩
  obtain ⟨hg, hk⟩ := (HG.out.below hb).bump HL.out j hj H4.out k'
  have HA := Lib.hid (hg.below hb')
  have HK := Lib.hid (((Kept.of_below (M := Ev.Named K ψ) hb).trans hk).trans (Kept.of_below hb'))
  clear hg hk hb hb'
  go_wp2_with fail
  exact done (.tuple #[.bool false, .int .i64 0]) rfl (by simp [results, Tryz.results17, go_sem]) ⟨rfl, HA.out, HK.out⟩
theorem more_nx {x : Ev.Bn} {q : Ev.CV} : (K.more x q).nx = K.nx := by
  unfold Ev.Hp.more
  split
  · rfl
  · rfl
theorem more_nx3 {h0 h1 h2 : Ev.Bn} {b0 b1 b2 : Int} : (Ev.mor3 K h0 h1 h2 b0 b1 b2).nx = K.nx := by
  unfold Ev.mor3
  rw [more_nx, more_nx, more_nx]
theorem named_more {x : Ev.Bn} {q : Ev.CV} {g : Nat} (h : Ev.Named (K.more x q) ψ g) : Ev.Named K ψ g := by
  obtain ⟨y, o, l, h1, h2, h3⟩ := h
  unfold Ev.Hp.more at h1
  split at h1
  · rename_i T st c e
    by_cases e2 : y = x
    · subst e2
      exact ⟨y, _, l, e, h2, h3⟩
    · rw [show (K.set x _).t.get y = K.t.get y from Ev.Tr.get_other _ _ _ _ e2] at h1
      exact ⟨y, o, l, h1, h2, h3⟩
  · exact ⟨y, o, l, h1, h2, h3⟩
theorem At.back (h : At B φ w0 K ψ w) {H' : Ev.Hp} {ψ' : Ev.Ren} {w' : World} (hx : Ev.Ext Tryz.prog B ψ K w ψ' H' w') (hs : Ev.subT K.t H'.t = true) : At B φ w0 K ψ w' := h.ext (Ev.Ext.back h.sr hx hs)
/-- a run from one memory to another one, or back to the same, whatever the hosts' counts are -/
def RunF (n : Nat) (f : FuncId) (a : List Ev.TV) (m : Nm) (K K' : Ev.Hp) : Prop :=
  (∀ b0 b1 b2, Ev.runM (Ev.ev n) f a m.h0 m.h1 m.h2 16 K K' b0 b1 b2 = Ev.doneM b0 b1 b2) ∨ (K' = K ∧ ∀ b0 b1 b2, Ev.runB (Ev.ev n) f a m.h0 m.h1 m.h2 16 K b0 b1 b2 = Ev.doneM b0 b1 b2)
/-- an evaluated call, whatever the hosts' counts are -/
theorem call_gs (h : Gs B φ w0 m K ψ w) (hl : Lay m K) {n : Nat} {f : FuncId} {a : List Ev.TV} {K' : Ev.Hp} (hs : RunF n f a m K K') {args : Array Value} (ha : Ev.tvsV ψ a = some args.toList) :
    Calls Tryz.prog f args w fun e w' => (∃ u, e = .returned u) ∧ ∃ ψ', Gs B φ w0 m K' ψ' w' ∧ Kept (Ev.Named K ψ) w w' ∧ ∀ g, g < w.heap.size → ¬ Ev.Named K ψ g → ¬ Ev.Named K' ψ' g := by
  obtain ⟨b0, c0⟩ := h.c 0 (by omega)
  obtain ⟨b1, c1⟩ := h.c 1 (by omega)
  obtain ⟨b2, c2⟩ := h.c 2 (by omega)
  obtain ⟨i, i1, i2⟩ := host_size
  have sr := Ev.more3_ok h.at'.sr i1 i2 (by omega) (hl.r 0 (by omega)) (hl.r 1 (by omega)) (hl.r 2 (by omega)) (fun e => absurd (hl.d 1 0 (by omega) (by omega) e) (by omega)) (fun e => absurd (hl.d 2 0 (by omega) (by omega) e) (by omega)) (fun e => absurd (hl.d 2 1 (by omega) (by omega) e) (by omega)) c0 c1 c2
  have nm : ∀ g, Ev.Named (Ev.mor3 K m.h0 m.h1 m.h2 b0 b1 b2) ψ g → Ev.Named K ψ g := fun g hg => named_more (named_more (named_more hg))
  rcases hs with hs | ⟨rfl, hs⟩
  · obtain ⟨v, H', he, hsub, e0, e1, e2⟩ := Ev.runM_ok (hs b0 b1 b2)
    refine ((Ev.ev_ok B n f a _ v H' he).2 ψ args w ha sr h.at'.size).mono ?_
    rintro e w' ⟨u, ψ', rfl, _, hx⟩
    have hat : At B φ w0 _ ψ w := ⟨sr, h.at'.le, h.at'.bel, h.at'.size⟩
    refine ⟨⟨u, rfl⟩, ψ', ⟨(hat.ext hx).sub (Ev.Sub.of hsub), all3 ⟨b0, Ev.NumAt.of hx.sr e0⟩ ⟨b1, Ev.NumAt.of hx.sr e1⟩ ⟨b2, Ev.NumAt.of hx.sr e2⟩⟩, hx.kept.mono fun g _ hg => nm g hg, fun g hg hn hk => hx.off hg (fun q => hn (nm g q)) (Ev.Named.sub hsub hk)⟩
  · obtain ⟨v, H', he, hsub, e0, e1, e2⟩ := Ev.runB_ok (hs b0 b1 b2)
    refine ((Ev.ev_ok B n f a _ v H' he).2 ψ args w ha sr h.at'.size).mono ?_
    rintro e w' ⟨u, ψ', rfl, _, hx⟩
    have hxK : Ev.Ext Tryz.prog B ψ K' w ψ' H' w' := ⟨hx.le, hx.sr, hx.size, fun b hb hn => hx.frame b hb fun x o l h1 h2 h3 => by
      obtain ⟨y, q, k, k1, k2, k3⟩ := nm b ⟨x, o, l, h1, h2, h3⟩
      exact hn y q k k1 k2 k3, fun x o l h1 h2 => by
      rcases hx.own x o l h1 h2 with ⟨y, q, k, k1, k2, k3⟩ | k1
      · obtain ⟨y', q', k', m1, m2, m3⟩ := nm l.b ⟨y, q, k, k1, k2, k3⟩
        exact .inl ⟨y', q', k', m1, m2, m3⟩
      · exact .inr k1, hx.os, hx.tape, hx.output, by
        have := hx.nx
        rw [more_nx3] at this
        exact this⟩
    have back : ∀ i, i < 3 → ∀ b, Ev.NumAt ψ' (m.h i) 16 w' b → Ev.NumAt ψ (m.h i) 16 w' b := fun i hi b hb => by
      obtain ⟨cs, q1, _⟩ := Ev.rowN_ok (hl.r i hi)
      obtain ⟨l, _, k1, _⟩ := h.at'.sr.live _ _ (Ev.Hp.cells_get q1)
      obtain ⟨l', m1, m2⟩ := hb
      rw [hx.le _ _ k1] at m1
      cases m1
      exact ⟨l, k1, m2⟩
    refine ⟨⟨u, rfl⟩, ψ, ⟨h.at'.back hxK hsub, all3 ⟨b0, back 0 (by omega) b0 (Ev.NumAt.of hx.sr e0)⟩ ⟨b1, back 1 (by omega) b1 (Ev.NumAt.of hx.sr e1)⟩ ⟨b2, back 2 (by omega) b2 (Ev.NumAt.of hx.sr e2)⟩⟩, hx.kept.mono fun g _ hg => nm g hg, fun g _ hn => hn⟩
end
end Go.Proofs.YtajhndakkaniaaaGreatDoor
/- TopGarbled: what is evaluated, as facts. -/
namespace Go.Proofs.YtajhndakkaniaaaGreatDoor
open Go.RowKit

abbrev fNew : FuncId := 7
abbrev fBlock : FuncId := 14
abbrev fSubmit : FuncId := 8
abbrev fBound : FuncId := 11
abbrev fPoll : FuncId := 12
abbrev fStatus : FuncId := 20
abbrev fStep : FuncId := 19
namespace Ev
theorem tvs_cons {φ : Ren} {t : TV} {r : List TV} {v : Value} {l : List Value} (h1 : tvV φ t = some v) (h2 : tvsV φ r = some l) : tvsV φ (t :: r) = some (v :: l) := by simp only [tvsV, h1, h2]
theorem tv_pt {φ : Ren} {x : Bn} {l : Loc} (h : φ x = some l) : tvV φ (ptTV x) = some (.pointer (some ⟨l.b, l.s, none⟩)) := by simp only [tvV, svV, cvV, ptrV, h, Nat.add_zero]
abbrev u64TV (n : Int) : TV := .s (.c (.k (.int .u64 n)))
noncomputable def cfgTV (e w b : Int) : TV := .s (.a [.k (.int .i64 e), .k (.int .i64 3), .k (.int .i64 2), .k (.int .i64 110), .k (.int .i64 w), .k (.int .i64 3), .k (.int .i64 b), .k (.int .i64 816), .k (.int .i64 4), .k (.int .i64 7), .k (.int .i64 20), .k (.int .i64 40), .k (.int .i64 0), .k (.int .u64 1000)])
noncomputable def is0 (H : Hp) (h : Bn) : Bool := match cellN H h 16 with
  | some c => cvEq c (.k (.int .i64 0))
  | none => false
theorem is0_ok {H : Hp} {h : Bn} (e : is0 H h = true) : cellN H h 16 = some (.k (.int .i64 0)) := by
  unfold is0 at e
  split at e
  · rename_i c e1
    rw [e1, cvEq_ok e]
  · cases e
/-- a new world, and the message -/
noncomputable def newOk (ev : Cl) (e w b : Int) (x h0 h1 h2 : Bn) (K : Hp) : Bool := ok2 (ev fNew [cfgTV e w b] ⟨.nil, .z⟩) fun v HN => tv1Eq v (.t [.c (.p x 0), .c (.k (.int .i64 0))]) && ok2 (ev fBlock [inTV 300, inTV 5] HN) fun d HB => ok2 (ev fSubmit [ptTV x, inTV 0, inTV 2, d] HB) fun r HS =>
  tv1Eq r (.t [.c (.k (.int .u64 1)), .c (.k (.int .i64 0))]) && (subH K HS && (is0 HS h0 && (is0 HS h1 && is0 HS h2)))
theorem newOk_ok {ev : Cl} {e w b : Int} {x h0 h1 h2 : Bn} {K : Hp} (h : newOk ev e w b x h0 h1 h2 K = true) :
    ∃ HN d HB HS, ev fNew [cfgTV e w b] ⟨.nil, .z⟩ = some (.t [.c (.p x 0), .c (.k (.int .i64 0))], HN) ∧ ev fBlock [inTV 300, inTV 5] HN = some (d, HB) ∧ ev fSubmit [ptTV x, inTV 0, inTV 2, d] HB = some (.t [.c (.k (.int .u64 1)), .c (.k (.int .i64 0))], HS) ∧ subH K HS = true ∧
      cellN HS h0 16 = some (.k (.int .i64 0)) ∧ cellN HS h1 16 = some (.k (.int .i64 0)) ∧ cellN HS h2 16 = some (.k (.int .i64 0)) := by
  obtain ⟨v, HN, e1, k1⟩ := ok2_ok h
  rw [Bool.and_eq_true] at k1
  obtain ⟨d, HB, e2, k2⟩ := ok2_ok k1.2
  obtain ⟨r, HS, e3, k3⟩ := ok2_ok k2
  simp only [Bool.and_eq_true] at k3
  rw [tv1Eq_ok k1.1] at e1
  rw [tv1Eq_ok k3.1] at e3
  exact ⟨HN, d, HB, HS, e1, e2, e3, k3.2.1, is0_ok k3.2.2.1, is0_ok k3.2.2.2.1, is0_ok k3.2.2.2.2⟩
/-- within how many rounds -/
noncomputable def bndOk (ev : Cl) (x : Bn) (N : Nat) (K : Hp) : Bool := ok2 (ev fBound [ptTV x] K) fun v H => (match v with
  | .s (.c (.k (.int .i64 (.ofNat r)))) => Nat.blt N r && Nat.ble r 1000000
  | _ => false) && subT K.t H.t
theorem bndOk_ok {ev : Cl} {x : Bn} {N : Nat} {K : Hp} (h : bndOk ev x N K = true) : ∃ (r : Nat) (H : Hp), ev fBound [ptTV x] K = some (inTV r, H) ∧ N < r ∧ r ≤ 1000000 ∧ subT K.t H.t = true := by
  obtain ⟨v, H, e, k⟩ := ok2_ok h
  rw [Bool.and_eq_true] at k
  obtain ⟨k1, k2⟩ := k
  split at k1
  · rename_i r
    rw [Bool.and_eq_true, Nat.blt_eq] at k1
    exact ⟨r, H, e, k1.1, Nat.le_of_ble_eq_true k1.2, k2⟩
  · cases k1
noncomputable def msgOk (ev : Cl) (H : Hp) (c : CV) : Bool := ok2 (ev fBlock [inTV 300, inTV 5] ⟨.nil, .z⟩) fun u H2 => match u with
  | .s (.c d) => match dataC H c, dataC H2 d with
    | some l, some m => match bytesC l with
      | some _ => cvsEq l m
      | none => false
    | _, _ => false
  | _ => false
/-- the message came, and was acked -/
noncomputable def finOk (ev : Cl) (x : Bn) (F : Hp) : Bool := ok2 (ev fPoll [ptTV x, inTV 2] F) fun v F1 => match v with
  | .t [.a [.k (.int .i64 _), .k (.int .u64 i), .s zz o d n e], .c (.k (.bool true))] => cvEq (.k (.int .u64 i)) (.k (.int .u64 1)) && (msgOk ev F1 (.s zz o d n e) && ok2 (ev fStatus [ptTV x, inTV 0, u64TV 1] (F1.kill zz)) fun s _ => tv1Eq s (inTV 2))
  | _ => false
theorem finOk_ok {ev : Cl} {x : Bn} {F : Hp} (h : finOk ev x F = true) : ∃ (a : Int) (zz : Bn) (o d n e : Nat) (F1 F2 F3 : Hp) (u : CV) (l : List CV) (bs : List UInt8), ev fPoll [ptTV x, inTV 2] F = some (.t [.a [.k (.int .i64 a), .k (.int .u64 1), .s zz o d n e], .c (.k (.bool true))], F1) ∧ ev fBlock [inTV 300, inTV 5] ⟨.nil, .z⟩ = some (.s (.c u), F2) ∧ dataC F1 (.s zz o d n e) = some l ∧ dataC F2 u = some l ∧ bytesC l = some bs ∧ ev fStatus [ptTV x, inTV 0, u64TV 1] (F1.kill zz) = some (inTV 2, F3) := by
  obtain ⟨v, F1, e1, k1⟩ := ok2_ok h
  split at k1
  · rename_i a i zz o d n e
    simp only [Bool.and_eq_true] at k1
    have hi := cvEq_ok k1.1
    simp only [CV.k.injEq, Value.int.injEq, true_and] at hi
    subst hi
    obtain ⟨u, F2, e2, k2⟩ := ok2_ok k1.2.1
    split at k2
    · rename_i d'
      split at k2
      · rename_i l m d1 d2
        split at k2
        · rename_i bs d3
          rw [← cvsEq_ok k2] at d2
          obtain ⟨s, F3, e3, k3⟩ := ok2_ok k1.2.2
          rw [tv1Eq_ok k3] at e3
          exact ⟨a, zz, o, d, n, e, F1, F2, F3, d', l, bs, e1, e2, d1, d2, d3, e3⟩
        · cases k2
      · cases k2
    · cases k2
  · cases k1
theorem named_kill {P : Program} {B : Nat} {φ : Ren} {H : Hp} {w : World} (sr : SR P B φ H w) {x : Bn} {o : AO} {l : Loc} (hx : H.t.get x = some o) (hl : φ x = some l) : ¬ Named (H.kill x) φ l.b := by
  rintro ⟨y, q, k, h1, h2, h3⟩
  by_cases e : y = x
  · subst e
    rw [show (H.kill y).t.get y = none from Tr.get_upd _ _ _] at h1
    cases h1
  · rw [show (H.kill x).t.get y = H.t.get y from Tr.get_other _ _ _ _ e] at h1
    exact e (sr.inj y x q o k l h1 hx h2 hl h3)
theorem dataC_name {H : Hp} {x : Bn} {o d n e : Nat} {l : List CV} (h : dataC H (.s x o d n e) = some l) : ∃ T st cs, H.cells x = some (T, st, cs) := by
  have h : (match Nat.blt 0 n, H.cells x with
    | true, some (_, _, cs) => ldN cs o n
    | _, _ => none) = some l := h
  split at h
  · rename_i T st cs _ hy
    exact ⟨T, st, cs, hy⟩
  · cases h
end Ev
/-- the block of the law, by itself -/
theorem block300 {u : Ev.CV} {F2 : Ev.Hp} {l : List Ev.CV} {bs : List UInt8} (he : Ev.ev 60 fBlock [Ev.inTV 300, Ev.inTV 5] ⟨.nil, .z⟩ = some (.s (.c u), F2)) (hd : Ev.dataC F2 u = some l) (hb : Ev.bytesC l = some bs) (w : World) :
    Calls Tryz.prog 14 #[.int .i64 300, .int .i64 5] w fun e w' => ∃ v, e = .returned v ∧ Rd w' 1 v bs.length (bcells bs) ∧ (∀ a l c, v = .slice (some a) l c → w.heap.size ≤ a.block) ∧ Below w.heap.size w w' := by
  have hn : ∀ x o, (Ev.Hp.mk Ev.Tr.nil Ev.Bn.z).t.get x ≠ some o := fun x o ho => by
    rw [show (Ev.Hp.mk Ev.Tr.nil Ev.Bn.z).t.get x = none from Ev.Tr.get_nil x] at ho
    cases ho
  refine ((Ev.ev_ok w.heap.size 60 _ _ _ _ _ he).2 (fun _ => none) #[.int .i64 300, .int .i64 5] w rfl (Ev.sr_nil _ _ _) (Nat.le_refl _)).mono ?_
  rintro e w' ⟨v, φ', rfl, hv, hx⟩
  refine ⟨v, rfl, Ev.dataC_rd hx.sr hd hb hv, ?_, ⟨hx.os, hx.tape, hx.output, hx.size, fun b hb => hx.frame b hb fun x o l ho => absurd ho (hn x o)⟩⟩
  intro a n c hva
  subst hva
  simp only [Ev.tvV, Ev.svV] at hv
  cases u with
  | s y o d n' e' =>
    obtain ⟨T, st, cs, hy⟩ := Ev.dataC_name hd
    simp only [Ev.cvV] at hv
    cases hy2 : φ' y with
    | none => rw [hy2] at hv; cases hv
    | some ly =>
      rw [hy2] at hv
      simp only at hv
      split at hv
      · cases hv
        rcases hx.own y _ ly (Ev.Hp.cells_get hy) hy2 with ⟨z', q, k, k1, _⟩ | k1
        · exact absurd k1 (hn z' q)
        · exact k1
      · cases hv
  | k v =>
    simp only [Ev.cvV] at hv
    cases hv
    cases hd
  | p _ _ => cases hd
  | m _ => cases hd
  | i _ _ _ => cases hd
  | f _ _ => cases hd
  | u _ _ _ _ => cases hd
/-- from a state on all comes to its end, and the message has come -/
def EndF (m : Nm) (K : Ev.Hp) : Prop := ∃ (N : Nat) (F : Ev.Hp), Ev.bndOk (Ev.ev 60) m.x N K = true ∧ Ev.Ends (Ev.ev 60) fIdle fRound m.x F N K ∧ Ev.finOk (Ev.ev 60) m.x F = true
noncomputable def kst (K0 K1 K2 : Ev.Hp) (n : Nat) : Ev.Hp := match n with
  | 0 => K0
  | 1 => K1
  | 2 => K1
  | 3 => K1
  | _ => K2
/-- all that is evaluated of one engine -/
structure Facts (m : Nm) (K0 K1 K2 : Ev.Hp) (e w b : Int) : Prop where
  new : Ev.newOk (Ev.ev 60) e w b m.x m.h0 m.h1 m.h2 K0 = true
  lay : ∀ n, Lay m (kst K0 K1 K2 n)
  step : ∀ n : Nat, RunF 60 fStep [Ev.ptTV m.x, Ev.inTV ((n % 3 : Nat) : Int), Ev.inTV n] m (kst K0 K1 K2 n) (kst K0 K1 K2 (n + 1))
  fin : ∀ n, EndF m (kst K0 K1 K2 n)
theorem kst_all {K0 K1 K2 : Ev.Hp} {p : Ev.Hp → Prop} (h0 : p K0) (h1 : p K1) (h2 : p K2) : ∀ n, p (kst K0 K1 K2 n)
  | 0 => h0
  | 1 => h1
  | 2 => h1
  | 3 => h1
  | _ + 4 => h2
theorem steps_of {m : Nm} {K0 K1 K2 : Ev.Hp}
    (s0 : ∀ b0 b1 b2, Ev.runM (Ev.ev 60) fStep [Ev.ptTV m.x, Ev.inTV 0, Ev.inTV 0] m.h0 m.h1 m.h2 16 K0 K1 b0 b1 b2 = Ev.doneM b0 b1 b2)
    (s1 : ∀ b0 b1 b2, Ev.runB (Ev.ev 60) fStep [Ev.ptTV m.x, Ev.inTV 1, Ev.inTV 1] m.h0 m.h1 m.h2 16 K1 b0 b1 b2 = Ev.doneM b0 b1 b2)
    (s2 : ∀ b0 b1 b2, Ev.runB (Ev.ev 60) fStep [Ev.ptTV m.x, Ev.inTV 2, Ev.inTV 2] m.h0 m.h1 m.h2 16 K1 b0 b1 b2 = Ev.doneM b0 b1 b2)
    (s3 : ∀ b0 b1 b2, Ev.runM (Ev.ev 60) fStep [Ev.ptTV m.x, Ev.inTV 0, Ev.inTV 3] m.h0 m.h1 m.h2 16 K1 K2 b0 b1 b2 = Ev.doneM b0 b1 b2)
    (t0 : ∀ p b0 b1 b2, Ev.runB (Ev.ev 60) fStep [Ev.ptTV m.x, Ev.inTV 0, Ev.inTV p] m.h0 m.h1 m.h2 16 K2 b0 b1 b2 = Ev.doneM b0 b1 b2)
    (t1 : ∀ p b0 b1 b2, Ev.runB (Ev.ev 60) fStep [Ev.ptTV m.x, Ev.inTV 1, Ev.inTV p] m.h0 m.h1 m.h2 16 K2 b0 b1 b2 = Ev.doneM b0 b1 b2)
    (t2 : ∀ p b0 b1 b2, Ev.runB (Ev.ev 60) fStep [Ev.ptTV m.x, Ev.inTV 2, Ev.inTV p] m.h0 m.h1 m.h2 16 K2 b0 b1 b2 = Ev.doneM b0 b1 b2) :
    ∀ n : Nat, RunF 60 fStep [Ev.ptTV m.x, Ev.inTV ((n % 3 : Nat) : Int), Ev.inTV n] m (kst K0 K1 K2 n) (kst K0 K1 K2 (n + 1))
  | 0 => .inl s0
  | 1 => .inr ⟨rfl, s1⟩
  | 2 => .inr ⟨rfl, s2⟩
  | 3 => .inl s3
  | n + 4 => by
    show RunF 60 fStep [Ev.ptTV m.x, Ev.inTV (((n + 4) % 3 : Nat) : Int), Ev.inTV ((n + 4 : Nat) : Int)] m K2 K2
    have h3 : (n + 4) % 3 = 0 ∨ (n + 4) % 3 = 1 ∨ (n + 4) % 3 = 2 := by omega
    rcases h3 with e | e | e
    · rw [e]
      exact .inr ⟨rfl, t0 _⟩
    · rw [e]
      exact .inr ⟨rfl, t1 _⟩
    · rw [e]
      exact .inr ⟨rfl, t2 _⟩
theorem hosts_d {m : Nm} {a b c : Nat} (h0 : m.h0 = Ev.key a) (h1 : m.h1 = Ev.key b) (h2 : m.h2 = Ev.key c) (hab : a ≠ b) (hac : a ≠ c) (hbc : b ≠ c) : ∀ i j, i < 3 → j < 3 → m.h i = m.h j → i = j := by
  intro i j hi hj h
  have e : ∀ x y : Nat, Ev.key x = Ev.key y → x = y := fun x y => Ev.key_inj
  match i, j, hi, hj, h with
  | 0, 0, _, _, _ => rfl
  | 1, 1, _, _, _ => rfl
  | 2, 2, _, _, _ => rfl
  | 0, 1, _, _, h => exact absurd (e a b (by rw [← h0, ← h1]; exact h)) hab
  | 0, 2, _, _, h => exact absurd (e a c (by rw [← h0, ← h2]; exact h)) hac
  | 1, 0, _, _, h => exact absurd (e b a (by rw [← h0, ← h1]; exact h)).symm hab
  | 1, 2, _, _, h => exact absurd (e b c (by rw [← h1, ← h2]; exact h)) hbc
  | 2, 0, _, _, h => exact absurd (e c a (by rw [← h0, ← h2]; exact h)).symm hac
  | 2, 1, _, _, h => exact absurd (e c b (by rw [← h1, ← h2]; exact h)).symm hbc
  | i + 3, _, hi, _, _ => omega
  | _, j + 3, _, hj, _ => omega
theorem raw_bad (r : List UInt8) : ¬ goodB (13 :: r) := fun h => by
  have h1 := h.2.1.kind.2
  exact absurd h1 (by show ¬ ((13 : UInt8).toNat : Int) ≤ 12; decide)
end Go.Proofs.YtajhndakkaniaaaGreatDoor
/- TopGarbled: the bytes of a frame, each shorter part of which is none; a row that is not one of the world's. -/
namespace Go.Proofs.YtajhndakkaniaaaGreatDoor
open Go.RowKit

theorem cut_bad {l : List UInt8} (h : goodB l) (k : Nat) (hk : k < l.length) : ¬ goodB (l.take k) := by
  intro hg
  have h1 := hg.1
  rw [List.length_take] at h1
  have h2 := good_head hg h (by rw [List.take_take, Nat.min_eq_left (by omega)])
  rw [List.length_take] at h2
  omega
theorem take_cells (l : List UInt8) (k : Nat) : (bcells l).take k = bcells (l.take k) := by simp [bcells, List.map_take]
theorem rd_to {w : World} {l : List UInt8} {a : Option Addr} {cap : Nat} (h : Rd w 1 (.slice a l.length cap) l.length (bcells l)) (k : Nat) (hk : k ≤ l.length) : Rd w 1 (.slice a k cap) (l.take k).length (bcells (l.take k)) := by
  rw [List.length_take, Nat.min_eq_left hk]
  rcases h with ⟨h1, h2, h3⟩ | ⟨x, c, h1, h2, h3, h4, h5⟩
  · simp only [Value.slice.injEq] at h1
    obtain ⟨rfl, h4, rfl⟩ := h1
    have : k = 0 := by omega
    subst this
    exact .inl ⟨rfl, rfl, rfl⟩
  · cases h1
    refine .inr ⟨x, cap, rfl, by omega, h3, by simp [bcells]; omega, fun j u hj => ?_⟩
    rw [← take_cells, List.getElem?_take] at hj
    split at hj
    · exact h5 j u hj
    · cases hj
/-- bytes of one's own, no shorter part of which is a frame -/
def EncCut (w : World) (e : Ending) (w' : World) : Prop := ∃ (L : List UInt8) (a : Option Addr) (cap : Nat) (r : Int), e = .returned (.tuple #[.slice a L.length cap, .int .i64 r]) ∧ w'.ownsRow w.heap.size 5 1 (.slice a L.length cap) L.length (bcells L) ∧ L.length ≤ 1526 ∧ (∀ k, k < L.length → ¬ goodB (L.take k)) ∧ Below w.heap.size w w'
theorem enc_cut (f : Fr) (v : Value) (hm : 0 ≤ f.msg) (w : World) (hd : Rd w 1 v f.data.length (bcells f.data)) (hl : f.data.length ≤ 1500) : Calls Tryz.prog 13 #[f.val v] w (EncCut w) := by
  refine (encode_ref f v hm w hd).mono ?_
  rintro e w' ⟨⟨hok, u, rfl, ho⟩ | ⟨_, rfl⟩, hb⟩
  · obtain ⟨a, cap, rfl, _, _⟩ := (Rd.of_own ho).form
    exact ⟨encF f, a, cap, 0, rfl, ho, by rw [enc_len]; omega, fun k hk => cut_bad (good_enc hok) k hk, hb⟩
  · exact ⟨[], none, 0, 1, rfl, World.ownsRow_nil _ _ _ _, by simp, fun k hk => absurd hk (Nat.not_lt_zero k), hb⟩
/-- a row that the world's names do not name -/
def Off (K : Ev.Hp) (ψ : Ev.Ren) (v : Value) (w : World) : Prop := ∀ a l c, v = .slice (some a) l c → ¬ Ev.Named K ψ a.block ∧ a.block < w.heap.size
theorem own_in {w : World} {B : Nat} {e : TypeId} {size : Nat} {v : Value} {n : Nat} {xs : List Value} (h : w.ownsRow B e size v n xs) : ∀ a l c, v = .slice (some a) l c → B ≤ a.block ∧ a.block < w.heap.size := by
  intro a l c hv
  rcases h.2 with ⟨h1, _⟩ | ⟨g, cap, cur, h1, hg, hh, _⟩
  · rw [hv] at h1
    cases h1
  · rw [hv] at h1
    cases h1
    exact ⟨hg, heap_lt hh⟩
theorem Off.fresh {P : Program} {B : Nat} {K : Ev.Hp} {ψ : Ev.Ren} {w w' : World} {e : TypeId} {size : Nat} {v : Value} {n : Nat} {xs : List Value} (hs : Ev.SR P B ψ K w) (h : w'.ownsRow w.heap.size e size v n xs) : Off K ψ v w' := fun a l c hv => by
  obtain ⟨h1, h2⟩ := own_in h a l c hv
  exact ⟨fun hn => by have := hs.named_lt hn; omega, h2⟩
theorem Off.ext {P : Program} {B : Nat} {K K' : Ev.Hp} {ψ ψ' : Ev.Ren} {w w' : World} {v : Value} (h : Off K ψ v w) (hx : Ev.Ext P B ψ K w ψ' K' w') : Off K' ψ' v w' := fun a l c hv => by
  obtain ⟨h1, h2⟩ := h a l c hv
  exact ⟨hx.off h2 h1, Nat.lt_of_lt_of_le h2 hx.size⟩
theorem Off.size {K : Ev.Hp} {ψ : Ev.Ren} {w w' : World} {v : Value} (h : Off K ψ v w) (hs : w.heap.size ≤ w'.heap.size) : Off K ψ v w' := fun a l c hv => ⟨(h a l c hv).1, Nat.lt_of_lt_of_le (h a l c hv).2 hs⟩
theorem Off.step {K K' : Ev.Hp} {ψ ψ' : Ev.Ren} {w w' : World} {v : Value} (h : Off K ψ v w) (hs : w.heap.size ≤ w'.heap.size) (hn : ∀ g, g < w.heap.size → ¬ Ev.Named K ψ g → ¬ Ev.Named K' ψ' g) : Off K' ψ' v w' := fun a l c hv => by
  obtain ⟨h1, h2⟩ := h a l c hv
  exact ⟨hn _ h2 h1, Nat.lt_of_lt_of_le h2 hs⟩
theorem Off.sub {K K' : Ev.Hp} {ψ : Ev.Ren} {w : World} {v : Value} (h : Off K ψ v w) (hs : Ev.subH K' K = true) : Off K' ψ v w := fun a l c hv => ⟨fun hn => (h a l c hv).1 (hn.sub hs), (h a l c hv).2⟩
theorem Off.to {K : Ev.Hp} {ψ : Ev.Ren} {w : World} {a : Option Addr} {n c n' c' : Nat} (h : Off K ψ (.slice a n c) w) : Off K ψ (.slice a n' c') w := fun x l q hv => by
  cases hv
  exact h x _ _ rfl
theorem Off.rd {K : Ev.Hp} {ψ : Ev.Ren} {w w' : World} {v : Value} {size n : Nat} {xs : List Value} (h : Off K ψ v w) (hr : Rd w size v n xs) (hk : Kept (Ev.Named K ψ) w w') : Rd w' size v n xs := hr.kept hk fun a l c hv => (h a l c hv).1
end Go.Proofs.YtajhndakkaniaaaGreatDoor
