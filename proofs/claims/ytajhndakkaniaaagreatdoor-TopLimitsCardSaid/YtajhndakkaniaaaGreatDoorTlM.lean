/- Memory under names between calls: what is not named is kept; a cell whose value is known is told; what an evaluated call says. General: no program in sight. -/
import Derived.Test.YtajhndakkaniaaaGreatDoorFzM
import Derived.Test.YtajhndakkaniaaaGreatDoorOrd
import Derived.Test.YtajhndakkaniaaaGreatDoorTopFM
import Derived.WalkKit
namespace Go.Proofs.YtajhndakkaniaaaGreatDoor
open Go

namespace Ev
abbrev inTV (n : Int) : TV := .s (.c (.k (.int .i64 n)))
section
variable {P : Program} {B : Nat} {φ φ' : Ren} {H H' K : Hp} {w w' : World}
/-- the blocks that are named -/
def Named (H : Hp) (φ : Ren) (b : Nat) : Prop := ∃ x o l, H.t.get x = some o ∧ φ x = some l ∧ l.b = b
theorem Ext.kept (hx : Ext P B φ H w φ' H' w') : Kept (Named H φ) w w' := ⟨hx.os, hx.tape, hx.output, hx.size, fun b hb hn => hx.frame b hb fun x o l h1 h2 h3 => hn ⟨x, o, l, h1, h2, h3⟩⟩
theorem Ext.off (hx : Ext P B φ H w φ' H' w') {g : Nat} (hg : g < w.heap.size) (hn : ¬ Named H φ g) : ¬ Named H' φ' g := by
  rintro ⟨x, o, l, h1, h2, h3⟩
  rcases hx.own x o l h1 h2 with ⟨y, q, k, k1, k2, k3⟩ | k1
  · exact hn ⟨y, q, k, k1, k2, k3.trans h3⟩
  · omega
theorem Named.sub {g : Nat} (hs : subH K H = true) (h : Named K φ g) : Named H φ g := by
  unfold subH at hs
  rw [Bool.and_eq_true] at hs
  obtain ⟨x, o, l, h1, h2, h3⟩ := h
  obtain ⟨b, k1, _⟩ := subT_ok hs.1 h1
  exact ⟨x, b, l, k1, h2, h3⟩
theorem SR.named_lt (h : SR P B φ H w) {g : Nat} (hn : Named H φ g) : g < w.heap.size := by
  obtain ⟨x, o, l, h1, h2, h3⟩ := hn
  rw [← h3]
  exact h.lt h1 h2
theorem SR.named_ge (h : SR P B φ H w) {g : Nat} (hn : Named H φ g) : B ≤ g := by
  obtain ⟨x, o, l, h1, h2, h3⟩ := hn
  obtain ⟨l', _, k1, _, _, k4⟩ := h.live x o h1
  rw [h2] at k1
  cases k1
  rw [← h3]
  exact k4
/-- one cell more is told -/
noncomputable def Hp.more (K : Hp) (x : Bn) (q : CV) : Hp := match K.t.get x with
  | some (.cells T st c) => K.set x (.cells T st (c ++ [q]))
  | _ => K
theorem more_ok (h : SR P B φ K w) {x : Bn} {T : TypeId} {st : Bool} {c : List CV} {l : Loc} {q : CV} {v : Value} {i : TypeInfo} (hx : K.cells x = some (T, st, c)) (hl : φ x = some l) (hi : P.info? T = some i) (hn : ∀ n, c.length ≤ n * i.size → c.length + 1 ≤ n * i.size) (hc : w.cell? ⟨l.b, l.s + c.length, none⟩ = some v) (hq : cvV φ q = some v) : SR P B φ (K.more x q) w := by
  obtain ⟨l', c0, fz, i', h1, h2, h3, h4, h5, h6, h7, h8⟩ := h.block hx
  rw [hl] at h1
  cases h1
  rw [hi] at h3
  cases h3
  unfold Hp.more
  rw [Hp.cells_get hx]
  refine (h.put (a := .cells T st (c ++ [q])) (w' := w) (Hp.cells_get hx) hl h2 (fun _ _ => rfl) rfl ⟨rfl, rfl, rfl⟩ ⟨c0, fz, i, rfl, hi, h4, ?_, h6, fun j p hp => ?_⟩).sr
  · rw [List.length_append, List.length_singleton]
    exact ⟨hn _ h5.1, h5.2⟩
  · by_cases e : j < c.length
    · rw [List.getElem?_append_left e] at hp
      exact h7 j p hp
    · rw [List.getElem?_append_right (by omega)] at hp
      have e0 : j - c.length = 0 := by
        by_cases e0 : j - c.length = 0
        · exact e0
        · rw [List.getElem?_eq_none (by rw [List.length_singleton]; omega)] at hp
          cases hp
      rw [e0, List.getElem?_cons_zero] at hp
      cases hp
      have : j = c.length := by omega
      rw [this]
      rw [cell_of h2] at hc
      exact ⟨v, hc, hq⟩
theorem Hp.more_other {x y : Bn} {q : CV} (h : y ≠ x) : (K.more x q).cells y = K.cells y := by
  unfold Hp.more
  split
  · unfold Hp.cells
    rw [show (K.set x _).t.get y = K.t.get y from Tr.get_other _ _ _ _ h]
  · rfl
/-- a cell of a named block -/
theorem at_ok (h : SR P B φ H w) {x : Bn} {T : TypeId} {st : Bool} {cs : List CV} {j : Nat} {c : CV} (hx : H.cells x = some (T, st, cs)) (hc : nth cs j = some c) : ∃ l v, φ x = some l ∧ w.cell? ⟨l.b, l.s + j, none⟩ = some v ∧ cvV φ c = some v := by
  obtain ⟨l, arr, fz, i, h1, h2, _, _, _, _, h7, _⟩ := h.block hx
  rw [nth_eq] at hc
  obtain ⟨v, k1, k2⟩ := h7 j c hc
  exact ⟨l, v, h1, by rw [cell_of h2]; exact k1, k2⟩
end
noncomputable def svEq : SV → SV → Bool
  | .c a, .c b => cvEq a b
  | .a l, .a m => cvsEq l m
  | _, _ => false
noncomputable def svsEq1 : List SV → List SV → Bool
  | [], [] => true
  | a :: l, b :: m => svEq a b && svsEq1 l m
  | _, _ => false
noncomputable def tv1Eq : TV → TV → Bool
  | .s a, .s b => svEq a b
  | .t l, .t m => svsEq1 l m
  | _, _ => false
theorem svEq_ok : ∀ {a b : SV}, svEq a b = true → a = b
  | .c a, .c b, h => by rw [cvEq_ok (a := a) (b := b) h]
  | .a l, .a m, h => by rw [cvsEq_ok (a := l) (b := m) h]
  | .c _, .a _, h => by cases h
  | .a _, .c _, h => by cases h
theorem svsEq1_ok : ∀ {l m : List SV}, svsEq1 l m = true → l = m
  | [], [], _ => rfl
  | [], _ :: _, h => by cases h
  | _ :: _, [], h => by cases h
  | a :: l, b :: m, h => by
    simp only [svsEq1, Bool.and_eq_true] at h
    rw [svEq_ok h.1, svsEq1_ok h.2]
theorem tv1Eq_ok : ∀ {a b : TV}, tv1Eq a b = true → a = b
  | .s a, .s b, h => by rw [svEq_ok (a := a) (b := b) h]
  | .t l, .t m, h => by rw [svsEq1_ok (l := l) (m := m) h]
  | .i _ _, .s _, h => by cases h
  | .i _ _, .t _, h => by cases h
  | .i _ _, .i _ _, h => by cases h
  | .s _, .t _, h => by cases h
  | .s _, .i _ _, h => by cases h
  | .t _, .s _, h => by cases h
  | .t _, .i _ _, h => by cases h
/-- an evaluated call that came to its end -/
noncomputable def ok2 (r : Option (TV × Hp)) (f : TV → Hp → Bool) : Bool := match r with
  | some (v, H) => f v H
  | none => false
theorem ok2_ok {r : Option (TV × Hp)} {f : TV → Hp → Bool} (h : ok2 r f = true) : ∃ v H, r = some (v, H) ∧ f v H = true := by
  unfold ok2 at h
  split at h
  · exact ⟨_, _, rfl, h⟩
  · cases h
/-- three rows' next cells -/
noncomputable def mor3 (K : Hp) (h0 h1 h2 : Bn) (b0 b1 b2 : Int) : Hp := ((K.more h0 (.k (.int .i64 b0))).more h1 (.k (.int .i64 b1))).more h2 (.k (.int .i64 b2))
noncomputable def cellN (H : Hp) (h : Bn) (n : Nat) : Option CV := match H.t.get h with
  | some (.cells _ _ l) => nth l n
  | _ => none
theorem cellN_ok {H : Hp} {h : Bn} {n : Nat} {c : CV} (e : cellN H h n = some c) : ∃ T st l, H.cells h = some (T, st, l) ∧ nth l n = some c := by
  unfold cellN at e
  split at e
  · rename_i T st l e1
    exact ⟨T, st, l, by unfold Hp.cells; rw [e1], e⟩
  · cases e
/-- a call over memory whose rows have a cell more: what it tells without them, and these -/
noncomputable def runM (ev : Cl) (f : FuncId) (l : List TV) (h0 h1 h2 : Bn) (n : Nat) (K K' : Hp) (b0 b1 b2 : Int) : Bool × Option CV × Option CV × Option CV := match ev f l (mor3 K h0 h1 h2 b0 b1 b2) with
  | some (_, H') => (subH K' H', cellN H' h0 n, cellN H' h1 n, cellN H' h2 n)
  | none => (false, none, none, none)
/-- the same, where memory is the same again -/
noncomputable def runB (ev : Cl) (f : FuncId) (l : List TV) (h0 h1 h2 : Bn) (n : Nat) (K : Hp) (b0 b1 b2 : Int) : Bool × Option CV × Option CV × Option CV := match ev f l (mor3 K h0 h1 h2 b0 b1 b2) with
  | some (_, H') => (subT K.t H'.t, cellN H' h0 n, cellN H' h1 n, cellN H' h2 n)
  | none => (false, none, none, none)
abbrev doneM (b0 b1 b2 : Int) : Bool × Option CV × Option CV × Option CV := (true, some (.k (.int .i64 b0)), some (.k (.int .i64 b1)), some (.k (.int .i64 b2)))
theorem runM_ok {ev : Cl} {f : FuncId} {l : List TV} {h0 h1 h2 : Bn} {n : Nat} {K K' : Hp} {b0 b1 b2 : Int} (h : runM ev f l h0 h1 h2 n K K' b0 b1 b2 = doneM b0 b1 b2) :
    ∃ v H', ev f l (mor3 K h0 h1 h2 b0 b1 b2) = some (v, H') ∧ subH K' H' = true ∧ cellN H' h0 n = some (.k (.int .i64 b0)) ∧ cellN H' h1 n = some (.k (.int .i64 b1)) ∧ cellN H' h2 n = some (.k (.int .i64 b2)) := by
  unfold runM at h
  split at h
  · rename_i v H' e
    simp only [Prod.mk.injEq] at h
    exact ⟨v, H', e, h.1, h.2.1, h.2.2.1, h.2.2.2⟩
  · simp at h
theorem runB_ok {ev : Cl} {f : FuncId} {l : List TV} {h0 h1 h2 : Bn} {n : Nat} {K : Hp} {b0 b1 b2 : Int} (h : runB ev f l h0 h1 h2 n K b0 b1 b2 = doneM b0 b1 b2) :
    ∃ v H', ev f l (mor3 K h0 h1 h2 b0 b1 b2) = some (v, H') ∧ subT K.t H'.t = true ∧ cellN H' h0 n = some (.k (.int .i64 b0)) ∧ cellN H' h1 n = some (.k (.int .i64 b1)) ∧ cellN H' h2 n = some (.k (.int .i64 b2)) := by
  unfold runB at h
  split at h
  · rename_i v H' e
    simp only [Prod.mk.injEq] at h
    exact ⟨v, H', e, h.1, h.2.1, h.2.2.1, h.2.2.2⟩
  · simp at h
/-- a named block's cell holds a number -/
def NumAt (φ : Ren) (h : Bn) (n : Nat) (w : World) (b : Int) : Prop := ∃ l, φ h = some l ∧ w.cell? ⟨l.b, l.s + n, none⟩ = some (.int .i64 b)
theorem NumAt.of {P : Program} {B : Nat} {φ : Ren} {H : Hp} {w : World} (h : SR P B φ H w) {x : Bn} {n : Nat} {b : Int} (e : cellN H x n = some (.k (.int .i64 b))) : NumAt φ x n w b := by
  obtain ⟨T, st, cs, h1, h2⟩ := cellN_ok e
  obtain ⟨l, v, k1, k2, k3⟩ := at_ok h h1 h2
  cases k3
  exact ⟨l, k1, k2⟩
/-- a host's row: so many cells are told, of a type that has one more -/
noncomputable def rowN (K : Hp) (h : Bn) (T n : Nat) : Bool := match K.t.get h with
  | some (.cells T' false l) => Nat.beq T T' && Nat.beq l.length n
  | _ => false
theorem rowN_ok {K : Hp} {h : Bn} {T n : Nat} (e : rowN K h T n = true) : ∃ l, K.cells h = some (T, false, l) ∧ l.length = n := by
  unfold rowN at e
  split at e
  · rename_i T' l e1
    rw [Bool.and_eq_true] at e
    refine ⟨l, ?_, nb e.2⟩
    unfold Hp.cells
    rw [e1, nb e.1]
  · cases e
theorem more3_ok {P : Program} {B : Nat} {φ : Ren} {K : Hp} {w : World} (h : SR P B φ K w) {h0 h1 h2 : Bn} {T n : Nat} {i : TypeInfo} (hi : P.info? T = some i) (hs : i.size = n + 1) (hn : 1 ≤ n) {b0 b1 b2 : Int} (r0 : rowN K h0 T n = true) (r1 : rowN K h1 T n = true) (r2 : rowN K h2 T n = true) (n01 : h1 ≠ h0) (n02 : h2 ≠ h0) (n12 : h2 ≠ h1) (c0 : NumAt φ h0 n w b0) (c1 : NumAt φ h1 n w b1) (c2 : NumAt φ h2 n w b2) : SR P B φ (mor3 K h0 h1 h2 b0 b1 b2) w := by
  obtain ⟨l0, x0, y0⟩ := rowN_ok r0
  obtain ⟨l1, x1, y1⟩ := rowN_ok r1
  obtain ⟨l2, x2, y2⟩ := rowN_ok r2
  obtain ⟨a0, p0, q0⟩ := c0
  obtain ⟨a1, p1, q1⟩ := c1
  obtain ⟨a2, p2, q2⟩ := c2
  have room : ∀ m, n ≤ m * i.size → n + 1 ≤ m * i.size := fun m hm => by
    rw [hs] at hm ⊢
    cases m with
    | zero => omega
    | succ m =>
      rw [Nat.succ_mul]
      omega
  have s0 := more_ok h (q := .k (.int .i64 b0)) x0 p0 hi (by rw [y0]; exact room) (by rw [y0]; exact q0) rfl
  have s1 := more_ok s0 (q := .k (.int .i64 b1)) ((Hp.more_other n01).trans x1) p1 hi (by rw [y1]; exact room) (by rw [y1]; exact q1) rfl
  exact more_ok s1 (q := .k (.int .i64 b2)) ((Hp.more_other n12).trans ((Hp.more_other n02).trans x2)) p2 hi (by rw [y2]; exact room) (by rw [y2]; exact q2) rfl
end Ev
end Go.Proofs.YtajhndakkaniaaaGreatDoor
/- TopLimits: what is evaluated, as facts; memory where two numbers are known by their bounds alone. -/
namespace Go.Proofs.YtajhndakkaniaaaGreatDoor
open Go.RowKit

abbrev fNew : FuncId := 7
abbrev fSubmit : FuncId := 8
abbrev fBound : FuncId := 11
abbrev fPoll : FuncId := 12
abbrev fHeld : FuncId := 9
abbrev TU8 : TypeId := 5
namespace Ev
theorem tvs_cons {φ : Ren} {t : TV} {r : List TV} {v : Value} {l : List Value} (h1 : tvV φ t = some v) (h2 : tvsV φ r = some l) : tvsV φ (t :: r) = some (v :: l) := by simp only [tvsV, h1, h2]
theorem tv_pt {φ : Ren} {x : Bn} {l : Loc} (h : φ x = some l) : tvV φ (ptTV x) = some (.pointer (some ⟨l.b, l.s, none⟩)) := by simp only [tvV, svV, cvV, ptrV, h, Nat.add_zero]
abbrev u64CV (n : Int) : CV := .k (.int .u64 n)
abbrev inCV (n : Int) : CV := .k (.int .i64 n)
/-- the names of the two numbers -/
noncomputable abbrev y0 : Bn := key 0
noncomputable abbrev y1 : Bn := key 1
/-- the two numbers are between these bounds -/
noncomputable def nar (K : Hp) (a b c d : Nat) : Hp := (K.set y0 (.sym a b)).set y1 (.sym c d)
theorem y01 : y1 ≠ y0 := fun h => by
  have := key_inj h
  omega
theorem nar_y0 {K : Hp} {a b c d : Nat} : (nar K a b c d).t.get y0 = some (.sym a b) := by
  unfold nar
  rw [show ((K.set y0 (.sym a b)).set y1 (.sym c d)).t.get y0 = (K.set y0 (.sym a b)).t.get y0 from Tr.get_other _ _ _ _ (Ne.symm y01)]
  exact Tr.get_upd (some (AO.sym a b)) y0 K.t
theorem nar_y1 {K : Hp} {a b c d : Nat} : (nar K a b c d).t.get y1 = some (.sym c d) := Tr.get_upd (some (AO.sym c d)) y1 (K.set y0 (.sym a b)).t
theorem nar_other {K : Hp} {a b c d : Nat} {x : Bn} (h0 : x ≠ y0) (h1 : x ≠ y1) : (nar K a b c d).t.get x = K.t.get x := by
  unfold nar
  rw [show ((K.set y0 (.sym a b)).set y1 (.sym c d)).t.get x = (K.set y0 (.sym a b)).t.get x from Tr.get_other _ _ _ _ h1]
  exact Tr.get_other _ _ _ _ h0
/-- both are there, as numbers -/
noncomputable def syms (K : Hp) : Bool := match symB K y0, symB K y1 with
  | some _, some _ => true
  | _, _ => false
theorem syms_ok {K : Hp} (h : syms K = true) : (∃ a b, K.t.get y0 = some (.sym a b)) ∧ ∃ a b, K.t.get y1 = some (.sym a b) := by
  unfold syms at h
  split at h
  · rename_i p q h1 h2
    unfold symB at h1 h2
    refine ⟨?_, ?_⟩
    · split at h1
      · rename_i lo hi e
        exact ⟨lo, hi, e⟩
      · cases h1
    · split at h2
      · rename_i lo hi e
        exact ⟨lo, hi, e⟩
      · cases h2
  · cases h
section
variable {P : Program} {B : Nat} {φ φ' : Ren} {H H' K : Hp} {w w' : World}
theorem SR.nar (h : SR P B φ K w) (hs : syms K = true) {l0 l1 : Loc} (h0 : φ y0 = some l0) (h1 : φ y1 = some l1) {a b c d : Nat} (ha : a ≤ l0.c) (hb : l0.c ≤ b) (hc : c ≤ l1.c) (hd : l1.c ≤ d) : SR P B φ (nar K a b c d) w := by
  obtain ⟨⟨p, q, e0⟩, ⟨p', q', e1⟩⟩ := syms_ok hs
  have s0 := h.narrow e0 h0 ha hb
  refine s0.narrow (lo := p') (hi := q') ?_ h1 hc hd
  rw [← e1]
  exact Tr.get_other _ _ _ _ y01
theorem nar_some (hs : syms K = true) {a b c d : Nat} {x : Bn} {o : AO} : (nar K a b c d).t.get x = some o → ∃ o', K.t.get x = some o' := fun h => by
  obtain ⟨⟨p, q, e0⟩, ⟨p', q', e1⟩⟩ := syms_ok hs
  by_cases h0 : x = y0
  · rw [h0]; exact ⟨_, e0⟩
  · by_cases h1 : x = y1
    · rw [h1]; exact ⟨_, e1⟩
    · rw [nar_other h0 h1] at h
      exact ⟨_, h⟩
theorem some_nar {a b c d : Nat} {x : Bn} {o : AO} : K.t.get x = some o → ∃ o', (nar K a b c d).t.get x = some o' := fun h => by
  by_cases h0 : x = y0
  · rw [h0]; exact ⟨_, nar_y0⟩
  · by_cases h1 : x = y1
    · rw [h1]; exact ⟨_, nar_y1⟩
    · exact ⟨o, by rw [nar_other h0 h1]; exact h⟩
/-- the same call, told of the wider bounds -/
theorem Ext.wide (hs : syms K = true) {a b c d : Nat} (h : Ext P B φ (nar K a b c d) w φ' H' w') : Ext P B φ K w φ' H' w' :=
  ⟨h.le, h.sr, h.size, fun k hk hn => h.frame k hk fun x o l hx hl => by
    obtain ⟨o', e⟩ := nar_some hs hx
    exact hn x o' l e hl, fun x o l hx hl => by
    rcases h.own x o l hx hl with ⟨y, q, k, k1, k2, k3⟩ | k1
    · obtain ⟨q', e⟩ := nar_some hs k1
      exact .inl ⟨y, q', k, e, k2, k3⟩
    · exact .inr k1, h.os, h.tape, h.output, h.nx⟩
end
/-- a config whose Tables and MaxID are not known -/
noncomputable def cfgL (e w b : Int) : TV := .s (.a [inCV e, inCV 2, inCV 2, inCV 150, inCV w, inCV 3, inCV b, inCV 1056, inCV 4, .u .i64 y0 false 0, inCV 20, inCV 40, inCV 0, .u .u64 y1 false 0])
noncomputable def hp0 : Hp := ((Hp.mk .nil .z).new (.sym 2 7)).new (.sym 1 30)
noncomputable def newL (ev : Cl) (e w b : Int) (x : Bn) (K : Hp) : Bool := ok2 (ev fNew [cfgL e w b] hp0) fun v H => tv1Eq v (.t [.c (.p x 0), .c (inCV 0)]) && subH K H
theorem newL_ok {ev : Cl} {e w b : Int} {x : Bn} {K : Hp} (h : newL ev e w b x K = true) : ∃ H, ev fNew [cfgL e w b] hp0 = some (.t [.c (.p x 0), .c (inCV 0)], H) ∧ subH K H = true := by
  obtain ⟨v, H, e1, k⟩ := ok2_ok h
  rw [Bool.and_eq_true] at k
  rw [tv1Eq_ok k.1] at e1
  exact ⟨H, e1, k.2⟩
/-- one byte is submitted -/
noncomputable def subE (ev : Cl) (x : Bn) (K : Hp) (v : Int) : Option (TV × Hp) := ev fSubmit [ptTV x, inTV 0, inTV 1, .s (.c (.s K.nx 0 0 1 0))] (K.new (.cells TU8 false [.k (.int .u8 v)]))
noncomputable def fitL (ev : Cl) (x : Bn) (K : Hp) (v : Int) (id : Int) (K' : Hp) : Bool := ok2 (subE ev x K v) fun r H => tv1Eq r (.t [.c (u64CV id), .c (inCV 0)]) && subH K' H
theorem fitL_ok {ev : Cl} {x : Bn} {K K' : Hp} {v id : Int} (h : fitL ev x K v id K' = true) : ∃ H, subE ev x K v = some (.t [.c (u64CV id), .c (inCV 0)], H) ∧ subH K' H = true := by
  obtain ⟨r, H, e1, k⟩ := ok2_ok h
  rw [Bool.and_eq_true] at k
  rw [tv1Eq_ok k.1] at e1
  exact ⟨H, e1, k.2⟩
/-- refused: memory is as it was -/
noncomputable def noL (ev : Cl) (x : Bn) (N K : Hp) (v : Int) (e : Int) : Bool := ok2 (subE ev x N v) fun r H => tv1Eq r (.t [.c (u64CV 0), .c (inCV e)]) && subT K.t H.t
theorem noL_ok {ev : Cl} {x : Bn} {N K : Hp} {v e : Int} (h : noL ev x N K v e = true) : ∃ H, subE ev x N v = some (.t [.c (u64CV 0), .c (inCV e)], H) ∧ subT K.t H.t = true := by
  obtain ⟨r, H, e1, k⟩ := ok2_ok h
  rw [Bool.and_eq_true] at k
  rw [tv1Eq_ok k.1] at e1
  exact ⟨H, e1, k.2⟩
noncomputable def heldL (ev : Cl) (x : Bn) (K : Hp) (n : Int) : Bool := ok2 (ev fHeld [ptTV x, inTV 0] K) fun r H => (match r with
  | .t [.c (.k (.int .i64 m)), .c (.k (.int .i64 _))] => cvEq (inCV m) (inCV n)
  | _ => false) && subT K.t H.t
theorem heldL_ok {ev : Cl} {x : Bn} {K : Hp} {n : Int} (h : heldL ev x K n = true) : ∃ m H, ev fHeld [ptTV x, inTV 0] K = some (.t [.c (inCV n), .c (inCV m)], H) ∧ subT K.t H.t = true := by
  obtain ⟨r, H, e1, k⟩ := ok2_ok h
  rw [Bool.and_eq_true] at k
  obtain ⟨k1, k2⟩ := k
  split at k1
  · rename_i a m
    have := cvEq_ok k1
    simp only [CV.k.injEq, Value.int.injEq, true_and] at this
    subst this
    exact ⟨m, H, e1, k2⟩
  · cases k1
noncomputable def bndL (ev : Cl) (x : Bn) (N : Nat) (K : Hp) : Bool := ok2 (ev fBound [ptTV x] K) fun v H => (match v with
  | .s (.c (.k (.int .i64 (.ofNat r)))) => Nat.blt N r && Nat.ble r 1000000
  | _ => false) && subT K.t H.t
theorem bndL_ok {ev : Cl} {x : Bn} {N : Nat} {K : Hp} (h : bndL ev x N K = true) : ∃ (r : Nat) (H : Hp), ev fBound [ptTV x] K = some (inTV r, H) ∧ N < r ∧ r ≤ 1000000 ∧ subT K.t H.t = true := by
  obtain ⟨v, H, e, k⟩ := ok2_ok h
  rw [Bool.and_eq_true] at k
  obtain ⟨k1, k2⟩ := k
  split at k1
  · rename_i r
    rw [Bool.and_eq_true, Nat.blt_eq] at k1
    exact ⟨r, H, e, k1.1, Nat.le_of_ble_eq_true k1.2, k2⟩
  · cases k1
/-- so many messages of one byte each come out, from host 0, and no more -/
noncomputable def pollsL (ev : Cl) (x : Bn) (n : Nat) : Hp → Bool :=
  Nat.rec (motive := fun _ => Hp → Bool)
    (fun F => ok2 (ev fPoll [ptTV x, inTV 1] F) fun v _ => match v with
      | .t [.a [.k (.int .i64 _), .k (.int .u64 _), .k (.slice none 0 0)], .c (.k (.bool false))] => true
      | _ => false)
    (fun _ ih F => ok2 (ev fPoll [ptTV x, inTV 1] F) fun v F1 => match v with
      | .t [.a [.k (.int .i64 a), .k (.int .u64 _), .s _ _ _ 1 _], .c (.k (.bool true))] => cvEq (inCV a) (inCV 0) && ih F1
      | _ => false) n
theorem pollsL_zero {ev : Cl} {x : Bn} {F : Hp} (h : pollsL ev x 0 F = true) : ∃ a i H, ev fPoll [ptTV x, inTV 1] F = some (.t [.a [inCV a, u64CV i, .k (.slice none 0 0)], .c (.k (.bool false))], H) := by
  obtain ⟨v, H, e1, k⟩ := ok2_ok (show ok2 (ev fPoll [ptTV x, inTV 1] F) (fun v _ => match v with
      | .t [.a [.k (.int .i64 _), .k (.int .u64 _), .k (.slice none 0 0)], .c (.k (.bool false))] => true
      | _ => false) = true from h)
  split at k
  · exact ⟨_, _, H, e1⟩
  · cases k
theorem pollsL_succ {ev : Cl} {x : Bn} {n : Nat} {F : Hp} (h : pollsL ev x (n + 1) F = true) : ∃ i q o d e H, ev fPoll [ptTV x, inTV 1] F = some (.t [.a [inCV 0, u64CV i, .s q o d 1 e], .c (.k (.bool true))], H) ∧ pollsL ev x n H = true := by
  obtain ⟨v, H, e1, k⟩ := ok2_ok (show ok2 (ev fPoll [ptTV x, inTV 1] F) (fun v F1 => match v with
      | .t [.a [.k (.int .i64 a), .k (.int .u64 _), .s _ _ _ 1 _], .c (.k (.bool true))] => cvEq (inCV a) (inCV 0) && pollsL ev x n F1
      | _ => false) = true from h)
  split at k
  · rename_i a i q o d e
    rw [Bool.and_eq_true] at k
    have := cvEq_ok k.1
    simp only [CV.k.injEq, Value.int.injEq, true_and] at this
    subst this
    exact ⟨i, q, o, d, e, H, e1, k.2⟩
  · cases k
/-- where what is too big is refused: the row of hosts, the first one, its engine, the core, the senders -/
noncomputable def isCell (H : Hp) (h : Bn) (n : Nat) (c : CV) : Bool := match cellN H h n with
  | some d => cvEq d c
  | none => false
theorem isCell_ok {H : Hp} {h : Bn} {n : Nat} {c : CV} (e : isCell H h n c = true) : cellN H h n = some c := by
  unfold isCell at e
  split at e
  · rename_i d e1
    rw [e1, cvEq_ok e]
  · cases e
end Ev
/-- the names on the way to the senders; the engine's type -/
structure Nb where
  x : Ev.Bn
  y : Ev.Bn
  e : Nat
  h : Ev.Bn
  t : TypeId
  z : Ev.Bn
  k : Ev.Bn
  s : Ev.Bn
noncomputable def wayL (m : Nb) (K : Ev.Hp) : Bool :=
  Ev.isCell K m.x 14 (.s m.y 0 0 2 m.e) && (Ev.isCell K m.y 0 (.p m.h 0) && (Ev.isCell K m.h 14 (.i m.t m.z 0) && (Ev.isCell K m.z 0 (.p m.k 0) && (Ev.isCell K m.k 1 (Ev.inCV 2) && (Ev.isCell K m.k 14 (Ev.inCV 0) && (Ev.isCell K m.k 17 (.p m.s 0) && Ev.isCell K m.s 1 (Ev.inCV 20000)))))))
/-- from a state on all comes to its end, and the messages have come -/
def EndL (x : Ev.Bn) (n : Nat) (K : Ev.Hp) : Prop := ∃ (N : Nat) (F : Ev.Hp), Ev.bndL (Ev.ev 60) x N K = true ∧ Ev.Ends (Ev.ev 60) fIdle fRound x F N K ∧ Ev.pollsL (Ev.ev 60) x n F = true
/-- all that is evaluated of one engine -/
structure FactsL (m : Nb) (K : Nat → Ev.Hp) (e w b : Int) : Prop where
  new : Ev.newL (Ev.ev 60) e w b m.x (K 0) = true
  syms : ∀ n, n ≤ 7 → Ev.syms (K n) = true
  way : ∀ n, n ≤ 7 → wayL m (K n) = true
  fit : ∀ n, n < 7 → Ev.fitL (Ev.ev 60) m.x (Ev.nar (K n) (max 2 (n + 1)) 7 (n + 1) 30) n (n + 1) (K (n + 1)) = true
  full : ∀ n, 2 ≤ n → n ≤ 7 → ∀ v, Ev.noL (Ev.ev 60) m.x (Ev.nar (K n) n n n 30) (K n) v 4 = true
  spent : ∀ n, 1 ≤ n → n < 7 → ∀ v, Ev.noL (Ev.ev 60) m.x (Ev.nar (K n) (n + 1) 7 n n) (K n) v 7 = true
  held : ∀ n, n ≤ 7 → Ev.heldL (Ev.ev 60) m.x (K n) n = true
  fin : ∀ n, 1 ≤ n → n ≤ 7 → EndL m.x n (K n)
theorem and_parts {a b : Bool} (h : (a && b) = true) : a = true ∧ b = true := by rwa [Bool.and_eq_true] at h
/-- blocks that changed are put in, dead ones taken out -/
noncomputable def Ev.lUp (t : Ev.Tr Ev.AO) (l : List Nat) : Ev.Tr Ev.AO := List.rec (motive := fun _ => Ev.Tr Ev.AO) t (fun n _ ih => ih.upd (some (Ev.dAO (Ev.vr n).2)) (Ev.key (Ev.vr n).1)) l
noncomputable def Ev.lRm (t : Ev.Tr Ev.AO) (l : List Nat) : Ev.Tr Ev.AO := List.rec (motive := fun _ => Ev.Tr Ev.AO) t (fun n _ ih => ih.upd none (Ev.key n)) l
theorem all7 {p : Nat → Prop} (h0 : p 0) (h1 : p 1) (h2 : p 2) (h3 : p 3) (h4 : p 4) (h5 : p 5) (h6 : p 6) : ∀ n, n < 7 → p n
  | 0, _ => h0
  | 1, _ => h1
  | 2, _ => h2
  | 3, _ => h3
  | 4, _ => h4
  | 5, _ => h5
  | 6, _ => h6
  | n + 7, h => absurd h (by omega)
theorem all8 {p : Nat → Prop} (h0 : p 0) (h1 : p 1) (h2 : p 2) (h3 : p 3) (h4 : p 4) (h5 : p 5) (h6 : p 6) (h7 : p 7) : ∀ n, n ≤ 7 → p n
  | 7, _ => h7
  | n, h => by
    by_cases e : n = 7
    · rw [e]; exact h7
    · exact all7 h0 h1 h2 h3 h4 h5 h6 n (by omega)
theorem all27 {p : Nat → Prop} (h2 : p 2) (h3 : p 3) (h4 : p 4) (h5 : p 5) (h6 : p 6) (h7 : p 7) : ∀ n, 2 ≤ n → n ≤ 7 → p n
  | 0, h, _ => absurd h (by omega)
  | 1, h, _ => absurd h (by omega)
  | 2, _, _ => h2
  | 3, _, _ => h3
  | 4, _, _ => h4
  | 5, _, _ => h5
  | 6, _, _ => h6
  | 7, _, _ => h7
  | n + 8, _, h => absurd h (by omega)
theorem all17 {p : Nat → Prop} (h1 : p 1) (h2 : p 2) (h3 : p 3) (h4 : p 4) (h5 : p 5) (h6 : p 6) : ∀ n, 1 ≤ n → n < 7 → p n
  | 0, h, _ => absurd h (by omega)
  | 1, _, _ => h1
  | 2, _, _ => h2
  | 3, _, _ => h3
  | 4, _, _ => h4
  | 5, _, _ => h5
  | 6, _, _ => h6
  | n + 7, _, h => absurd h (by omega)
theorem all17b {p : Nat → Prop} (h1 : p 1) (h2 : p 2) (h3 : p 3) (h4 : p 4) (h5 : p 5) (h6 : p 6) (h7 : p 7) : ∀ n, 1 ≤ n → n ≤ 7 → p n
  | 0, h, _ => absurd h (by omega)
  | 1, _, _ => h1
  | 2, _, _ => h2
  | 3, _, _ => h3
  | 4, _, _ => h4
  | 5, _, _ => h5
  | 6, _, _ => h6
  | 7, _, _ => h7
  | n + 8, _, h => absurd h (by omega)
end Go.Proofs.YtajhndakkaniaaaGreatDoor
/- TopLimits: a message that is too big is refused, and nothing is touched. -/
namespace Go.Proofs.YtajhndakkaniaaaGreatDoor
open Go.RowKit

theorem host_in (b s yb yo j n cap xb xo : Nat) (w : World) (hj : j < n) (_hn : n ≤ 1000000) (hf : w.cell? ⟨b, s + 14, none⟩ = some (.slice (some ⟨yb, yo, none⟩) n cap)) (hx : w.cell? ⟨yb, yo + j, none⟩ = some (.pointer (some ⟨xb, xo, none⟩))) :
    Calls Tryz.prog 25 #[.pointer (some ⟨b, s, none⟩), .int .i64 j] w fun e w' => e = .returned (.pointer (some ⟨xb, xo, none⟩)) ∧ w' = w := by
  have g1 : ¬ ((j : Int) < 0) := by omega
  have g2 : ¬ ((n : Int) ≤ j) := by omega
  go_enter Tryz.func25, Tryz.ntmps25
  go_wp2_with fail
  go_ret
  exact ⟨rfl, rfl⟩
theorem none_no (b s : Nat) (t : TypeId) (v : Value) (w : World) (hf : w.cell? ⟨b, s + 14, none⟩ = some (.iface t v)) :
    Calls Tryz.prog 60 #[.pointer (some ⟨b, s, none⟩)] w fun e w' => e = .returned (.bool false) ∧ w' = w := by
  go_enter Tryz.func60, Tryz.ntmps60
  go_wp2_with fail
  go_ret
  exact ⟨rfl, rfl⟩
/-- what is refused -/
abbrev bigV : Value := .tuple #[.int .u64 0, .int .i64 3]
theorem snd_big (b s n cap : Nat) (a : Option Addr) (w : World) (hm : w.cell? ⟨b, s + 1, none⟩ = some (.int .i64 20000)) (hn : 20000 < n) (hn2 : n ≤ 100000) :
    Calls Tryz.prog 242 #[.pointer (some ⟨b, s, none⟩), .int .i64 1, .slice a n cap] w fun e w' => e = .returned bigV ∧ Below w.heap.size w w' := by
  have g1 : decide ((20000 : Int) < n) = true := decide_eq_true (by omega)
  go_enter Tryz.func242, Tryz.ntmps242
  go_wp2_with fail
  exact done bigV rfl (by simp [results, Tryz.results242, go_sem]) ⟨rfl, Below.refl _ _⟩
theorem core_big (b s sb ss n cap : Nat) (a : Option Addr) (w : World) (h1 : w.cell? ⟨b, s + 1, none⟩ = some (.int .i64 2)) (h2 : w.cell? ⟨b, s + 14, none⟩ = some (.int .i64 0)) (h3 : w.cell? ⟨b, s + 17, none⟩ = some (.pointer (some ⟨sb, ss, none⟩))) (hm : w.cell? ⟨sb, ss + 1, none⟩ = some (.int .i64 20000)) (hn : 20000 < n) (hn2 : n ≤ 100000) :
    Calls Tryz.prog 228 #[.pointer (some ⟨b, s, none⟩), .int .i64 1, .slice a n cap] w fun e w' => e = .returned bigV ∧ Below w.heap.size w w' := by
  go_enter Tryz.func228, Tryz.ntmps228
  go_wp2_with fail
  refine (snd_big sb ss n cap a _ hm hn hn2).mono ?_
  rintro e w1 ⟨rfl, hb⟩
  have HB := Lib.hid hb
  clear hb
  go_wp2_with fail
  exact done bigV rfl (by simp [results, Tryz.results228, go_sem]) ⟨rfl, HB.out⟩
abbrev fCoreSubmit : FuncId := 228
theorem trans_big (b s : Nat) (t : TypeId) (zb zs kb ks sb ss n cap : Nat) (a : Option Addr) (w : World) (ht : Ev.stMeth Tryz.prog t "Submit" = some (.emb fCoreSubmit 0)) (hf : w.cell? ⟨b, s + 14, none⟩ = some (.iface t (.pointer (some ⟨zb, zs, none⟩)))) (hz : w.cell? ⟨zb, zs + 0, none⟩ = some (.pointer (some ⟨kb, ks, none⟩))) (h1 : w.cell? ⟨kb, ks + 1, none⟩ = some (.int .i64 2)) (h2 : w.cell? ⟨kb, ks + 14, none⟩ = some (.int .i64 0)) (h3 : w.cell? ⟨kb, ks + 17, none⟩ = some (.pointer (some ⟨sb, ss, none⟩))) (hm : w.cell? ⟨sb, ss + 1, none⟩ = some (.int .i64 20000)) (hn : 20000 < n) (hn2 : n ≤ 100000) :
    Calls Tryz.prog 26 #[.pointer (some ⟨b, s, none⟩), .int .i64 1, .slice a n cap] w fun e w' => e = .returned bigV ∧ Below w.heap.size w w' := by
  have hmt := fun k => Ev.meth_emb (w := w) ht zb zs hz k
  go_enter Tryz.func26, Tryz.ntmps26
  go_wp2_with fail
  refine (none_no b s t _ _ hf).mono ?_
  rintro e w1 ⟨rfl, rfl⟩
  go_wp2_with fail
  refine (core_big kb ks sb ss n cap a _ h1 h2 h3 hm hn hn2).mono ?_
  rintro e w1 ⟨rfl, hb⟩
  have HB := Lib.hid hb
  clear hb
  go_wp2_with fail
  exact done bigV rfl (by simp [results, Tryz.results26, go_sem]) ⟨rfl, HB.out⟩
section
variable {B : Nat} {ψ : Ev.Ren} {K : Ev.Hp} {w : World}
theorem at_p (sr : Ev.SR Tryz.prog B ψ K w) {x y : Ev.Bn} {n o : Nat} (h : Ev.cellN K x n = some (.p y o)) : ∃ lx ly, ψ x = some lx ∧ ψ y = some ly ∧ w.cell? ⟨lx.b, lx.s + n, none⟩ = some (.pointer (some ⟨ly.b, ly.s + o, none⟩)) := by
  obtain ⟨T, st, cs, e1, e2⟩ := Ev.cellN_ok h
  obtain ⟨lx, v, x1, x2, x3⟩ := Ev.at_ok sr e1 e2
  simp only [Ev.cvV, Ev.ptrV] at x3
  cases hy : ψ y with
  | none => rw [hy] at x3; cases x3
  | some ly => rw [hy] at x3; cases x3; exact ⟨lx, ly, x1, rfl, x2⟩
theorem at_i (sr : Ev.SR Tryz.prog B ψ K w) {x y : Ev.Bn} {t : TypeId} {n o : Nat} (h : Ev.cellN K x n = some (.i t y o)) : ∃ lx ly, ψ x = some lx ∧ ψ y = some ly ∧ w.cell? ⟨lx.b, lx.s + n, none⟩ = some (.iface t (.pointer (some ⟨ly.b, ly.s + o, none⟩))) := by
  obtain ⟨T, st, cs, e1, e2⟩ := Ev.cellN_ok h
  obtain ⟨lx, v, x1, x2, x3⟩ := Ev.at_ok sr e1 e2
  simp only [Ev.cvV, Ev.ptrV] at x3
  cases hy : ψ y with
  | none => rw [hy] at x3; cases x3
  | some ly => rw [hy] at x3; cases x3; exact ⟨lx, ly, x1, rfl, x2⟩
theorem at_k (sr : Ev.SR Tryz.prog B ψ K w) {x : Ev.Bn} {n : Nat} {u : Value} (h : Ev.cellN K x n = some (.k u)) : ∃ lx, ψ x = some lx ∧ w.cell? ⟨lx.b, lx.s + n, none⟩ = some u := by
  obtain ⟨T, st, cs, e1, e2⟩ := Ev.cellN_ok h
  obtain ⟨lx, v, x1, x2, x3⟩ := Ev.at_ok sr e1 e2
  cases x3
  exact ⟨lx, x1, x2⟩
theorem at_s (sr : Ev.SR Tryz.prog B ψ K w) {x y : Ev.Bn} {n d e : Nat} (hd : 0 < d) (h : Ev.cellN K x n = some (.s y 0 0 d e)) : ∃ lx ly, ψ x = some lx ∧ ψ y = some ly ∧ w.cell? ⟨lx.b, lx.s + n, none⟩ = some (.slice (some ⟨ly.b, ly.s, none⟩) d ly.c) := by
  obtain ⟨T, st, cs, e1, e2⟩ := Ev.cellN_ok h
  obtain ⟨lx, v, x1, x2, x3⟩ := Ev.at_ok sr e1 e2
  simp only [Ev.cvV] at x3
  cases hy : ψ y with
  | none => rw [hy] at x3; cases x3
  | some ly =>
    rw [hy] at x3
    simp only at x3
    split at x3
    · cases x3
      rw [if_neg (by omega)] at x2
      exact ⟨lx, ly, x1, rfl, by simpa using x2⟩
    · cases x3
end
/-- an engine's own type -/
def EngT (t : TypeId) : Prop := Ev.stMeth Tryz.prog t "Submit" = some (.emb fCoreSubmit 0)
theorem eng_homa : EngT 126 := by unfold EngT; kernel_rfl
theorem eng_ndp : EngT 131 := by unfold EngT; kernel_rfl
theorem eng_xpass : EngT 135 := by unfold EngT; kernel_rfl
theorem big_in {B : Nat} {ψ : Ev.Ren} {K : Ev.Hp} {w : World} {m : Nb} (sr : Ev.SR Tryz.prog B ψ K w) (ht : EngT m.t) (hw : wayL m K = true) {lx : Ev.Loc} (hx : ψ m.x = some lx) (n cap : Nat) (a : Option Addr) (hn : 20000 < n) (hn2 : n ≤ 100000) :
    Calls Tryz.prog 8 #[.pointer (some ⟨lx.b, lx.s, none⟩), .int .i64 0, .int .i64 1, .slice a n cap] w fun e w' => e = .returned bigV ∧ Below w.heap.size w w' := by
  unfold wayL at hw
  simp only [Bool.and_eq_true] at hw
  obtain ⟨k1, k2, k3, k4, k5, k6, k7, k8⟩ := hw
  obtain ⟨l1, ly, e1, ey, c1⟩ := at_s sr (by omega) (Ev.isCell_ok k1)
  obtain ⟨l2, lh, e2, eh, c2⟩ := at_p sr (Ev.isCell_ok k2)
  obtain ⟨l3, lz, e3, ez, c3⟩ := at_i sr (Ev.isCell_ok k3)
  obtain ⟨l4, lk, e4, ek, c4⟩ := at_p sr (Ev.isCell_ok k4)
  obtain ⟨l5, e5, c5⟩ := at_k sr (Ev.isCell_ok k5)
  obtain ⟨l6, e6, c6⟩ := at_k sr (Ev.isCell_ok k6)
  obtain ⟨l7, ls, e7, es, c7⟩ := at_p sr (Ev.isCell_ok k7)
  obtain ⟨l8, e8, c8⟩ := at_k sr (Ev.isCell_ok k8)
  rw [hx] at e1; cases e1
  rw [ey] at e2; cases e2
  rw [eh] at e3; cases e3
  rw [ez] at e4; cases e4
  rw [ek] at e5 e6 e7; cases e5; cases e6; cases e7
  rw [es] at e8; cases e8
  clear sr ey eh ez ek es hx k1 k2 k3 k4 k5 k6 k7 k8
  have hh := host_in lx.b lx.s ly.b ly.s 0 2 ly.c lh.b (lh.s + 0) w (by omega) (by omega) c1 c2
  have hh : Calls Tryz.prog 25 #[.pointer (some ⟨lx.b, lx.s, none⟩), .int .i64 0] w fun e w' => e = .returned (.pointer (some ⟨lh.b, lh.s + 0, none⟩)) ∧ w' = w := hh
  have hb := trans_big lh.b (lh.s + 0) m.t lz.b (lz.s + 0) lk.b (lk.s + 0) ls.b (ls.s + 0) n cap a w ht (by simpa using c3) (by simpa using c4) (by simpa using c5) (by simpa using c6) (by simpa using c7) (by simpa using c8) hn hn2
  clear c1 c2 c3 c4 c5 c6 c7 c8 ht
  go_enter Tryz.func8, Tryz.ntmps8
  go_wp2_with fail
  refine hh.mono ?_
  rintro e w1 ⟨rfl, rfl⟩
  go_wp2_with fail
  refine hb.mono ?_
  rintro e w2 ⟨rfl, h2⟩
  have H2 := Lib.hid h2
  clear h2
  go_wp2_with fail
  exact done bigV rfl (by simp [results, Tryz.results8, go_sem]) ⟨rfl, H2.out⟩
end Go.Proofs.YtajhndakkaniaaaGreatDoor
/- TopLimits: the law's calls, as what they do to memory that is told by names. -/
namespace Go.Proofs.YtajhndakkaniaaaGreatDoor
open Go.RowKit

section
variable {B : Nat} {φ ψ : Ev.Ren} {w0 w : World} {K : Ev.Hp}
theorem At.below (h : At B φ w0 K ψ w) {w' : World} (hb : Below w.heap.size w w') : At B φ w0 K ψ w' := h.ext (Ev.Ext.of_below h.sr hb)
theorem At.back (h : At B φ w0 K ψ w) {H' : Ev.Hp} {ψ' : Ev.Ren} {w' : World} (hx : Ev.Ext Tryz.prog B ψ K w ψ' H' w') (hs : Ev.subT K.t H'.t = true) : At B φ w0 K ψ w' := h.ext (Ev.Ext.back h.sr hx hs)
/-- a block that is not named is as it was, and is not named -/
def Apart (K : Ev.Hp) (ψ : Ev.Ren) (w : World) (K' : Ev.Hp) (ψ' : Ev.Ren) (w' : World) : Prop := w.heap.size ≤ w'.heap.size ∧ ∀ g, g < w.heap.size → ¬ Ev.Named K ψ g → w'.heap[g]? = w.heap[g]? ∧ ¬ Ev.Named K' ψ' g
theorem Apart.of_ext {ψ' : Ev.Ren} {H' K' : Ev.Hp} {w' : World} (h : Ev.Ext Tryz.prog B ψ K w ψ' H' w') (hs : Ev.subH K' H' = true) : Apart K ψ w K' ψ' w' := ⟨h.size, fun g hg hn => ⟨h.frame g hg fun x o l h1 h2 h3 => hn ⟨x, o, l, h1, h2, h3⟩, fun hk => h.off hg hn (Ev.Named.sub hs hk)⟩⟩
theorem Apart.of_back {ψ' : Ev.Ren} {H' : Ev.Hp} {w' : World} (h : Ev.Ext Tryz.prog B ψ K w ψ' H' w') : Apart K ψ w K ψ w' := ⟨h.size, fun g hg hn => ⟨h.frame g hg fun x o l h1 h2 h3 => hn ⟨x, o, l, h1, h2, h3⟩, hn⟩⟩
theorem Apart.of_below {w' : World} (hb : Below w.heap.size w w') : Apart K ψ w K ψ w' := ⟨hb.size, fun g hg hn => ⟨hb.block g hg, hn⟩⟩
theorem Apart.refl : Apart K ψ w K ψ w := ⟨Nat.le_refl _, fun _ _ hn => ⟨rfl, hn⟩⟩
theorem Apart.trans {K' K2 : Ev.Hp} {ψ' ψ2 : Ev.Ren} {w' w2 : World} (h : Apart K ψ w K' ψ' w') (k : Apart K' ψ' w' K2 ψ2 w2) : Apart K ψ w K2 ψ2 w2 := ⟨Nat.le_trans h.1 k.1, fun g hg hn => by
  obtain ⟨h1, h2⟩ := h.2 g hg hn
  obtain ⟨k1, k2⟩ := k.2 g (Nat.lt_of_lt_of_le hg h.1) h2
  exact ⟨k1.trans h1, k2⟩⟩
theorem Apart.cell {K' : Ev.Hp} {ψ' : Ev.Ren} {w' : World} (h : Apart K ψ w K' ψ' w') {g o : Nat} {v : Value} (hc : w.cell? ⟨g, o, none⟩ = some v) (hn : ¬ Ev.Named K ψ g) : w'.cell? ⟨g, o, none⟩ = some v := by
  have hg : g < w.heap.size := by
    rcases Nat.lt_or_ge g w.heap.size with e | e
    · exact e
    · simp [World.cell?, Array.getElem?_eq_none e] at hc
  rw [← hc]
  exact World.cell?_of_block (h.2 g hg hn).1
/-- the data of one byte, ahead of the call -/
theorem row_new (h : Ev.SR Tryz.prog B ψ K w) (hB : B ≤ w.heap.size) (v : Int) : Ev.Ext Tryz.prog B ψ K w (Ev.name ψ K.nx ⟨w.heap.size, 0, 1⟩) (K.new (.cells TU8 false [.k (.int .u8 v)])) (w.alloc (.cells #[.int .u8 v] TU8)) := by
  obtain ⟨i, hi, hz, hs, hb⟩ := info_parts info_u8
  refine h.new rfl ⟨#[.int .u8 v], (0, 0), i, rfl, hi, by rw [hs]; exact Nat.le_refl 1, ⟨by rw [hs]; exact Nat.le_refl 1, by show 1 ≤ 9223372036854775807; decide⟩, .inl rfl, fun j q hq => ?_⟩ hB
  cases j with
  | succ j => simp at hq
  | zero =>
    rw [List.getElem?_cons_zero] at hq
    cases hq
    exact ⟨_, rfl, rfl⟩
theorem row_args {x : Ev.Bn} {l : Ev.Loc} (hx : ψ x = some l) (h : Ev.SR Tryz.prog B ψ K w) : Ev.tvsV (Ev.name ψ K.nx ⟨w.heap.size, 0, 1⟩) [Ev.ptTV x, Ev.inTV 0, Ev.inTV 1, .s (.c (.s K.nx 0 0 1 0))] = some [.pointer (some ⟨l.b, l.s, none⟩), .int .i64 0, .int .i64 1, .slice (some ⟨w.heap.size, 0, none⟩) 1 1] := by
  have hx' := h.le_name ⟨w.heap.size, 0, 1⟩ _ _ hx
  refine Ev.tvs_cons (Ev.tv_pt hx') (Ev.tvs_cons rfl (Ev.tvs_cons rfl (Ev.tvs_cons ?_ rfl)))
  simp only [Ev.tvV, Ev.svV, Ev.cvV, Ev.name_same]
  rw [if_pos (by decide)]
  rfl
end
section
variable {m : Nb} {K : Nat → Ev.Hp} {E W Bd : Int} {B T L : Nat} {φ ψ : Ev.Ren} {w0 w : World}
/-- what is known of the two numbers -/
structure Two (φ : Ev.Ren) (T L : Nat) : Prop where
  t : ∃ l, φ Ev.y0 = some l ∧ l.c = T
  l : ∃ l, φ Ev.y1 = some l ∧ l.c = L
theorem two_nar (ht : Two φ T L) (hf : FactsL m K E W Bd) {n : Nat} (hn : n ≤ 7) (h : At B φ w0 (K n) ψ w) {a b c d : Nat} (h1 : a ≤ T) (h2 : T ≤ b) (h3 : c ≤ L) (h4 : L ≤ d) : Ev.SR Tryz.prog B ψ (Ev.nar (K n) a b c d) w := by
  obtain ⟨l0, e0, c0⟩ := ht.t
  obtain ⟨l1, e1, c1⟩ := ht.l
  exact h.sr.nar (hf.syms n hn) (h.le _ _ e0) (h.le _ _ e1) (by omega) (by omega) (by omega) (by omega)
/-- a message that fits -/
theorem fit_at (ht : Two φ T L) (hf : FactsL m K E W Bd) {n : Nat} (hn : n < 7) (h : At B φ w0 (K n) ψ w) (h1 : n < T) (h2 : 2 ≤ T) (h3 : T ≤ 7) (h4 : n < L) (h5 : L ≤ 30) {lx : Ev.Loc} (hx : φ m.x = some lx) :
    Calls Tryz.prog fSubmit #[.pointer (some ⟨lx.b, lx.s, none⟩), .int .i64 0, .int .i64 1, .slice (some ⟨w.heap.size, 0, none⟩) 1 1] (w.alloc (.cells #[.int .u8 n] TU8)) fun e w' => e = .returned (.tuple #[.int .u64 ((n : Int) + 1), .int .i64 0]) ∧ ∃ ψ', At B φ w0 (K (n + 1)) ψ' w' ∧ Apart (K n) ψ w (K (n + 1)) ψ' w' := by
  have sr := two_nar ht hf (Nat.le_of_lt hn) h (a := max 2 (n + 1)) (b := 7) (c := n + 1) (d := 30) (by omega) h3 h4 h5
  obtain ⟨H, he, hs⟩ := Ev.fitL_ok (hf.fit n hn)
  have hx0 := row_new sr h.size (n : Int)
  refine ((Ev.ev_ok B 60 _ _ _ _ _ he).2 _ #[.pointer (some ⟨lx.b, lx.s, none⟩), .int .i64 0, .int .i64 1, .slice (some ⟨w.heap.size, 0, none⟩) 1 1] _ (row_args (h.le _ _ hx) sr) hx0.sr (Nat.le_trans h.size hx0.size)).mono ?_
  rintro e w' ⟨u, ψ', rfl, hu, hx1⟩
  have hu : some (Value.tuple #[.int .u64 ((n : Int) + 1), .int .i64 0]) = some u := hu
  cases hu
  have hw := (hx0.trans hx1).wide (hf.syms n (Nat.le_of_lt hn))
  exact ⟨rfl, ψ', (h.ext hw).sub (Ev.Sub.of hs), Apart.of_ext hw hs⟩
/-- one that is refused -/
theorem no_at (hf : FactsL m K E W Bd) {n a b c d : Nat} {v er : Int} (hn : n ≤ 7) (h : At B φ w0 (K n) ψ w) (sr : Ev.SR Tryz.prog B ψ (Ev.nar (K n) a b c d) w) (hno : Ev.noL (Ev.ev 60) m.x (Ev.nar (K n) a b c d) (K n) v er = true) {lx : Ev.Loc} (hx : φ m.x = some lx) :
    Calls Tryz.prog fSubmit #[.pointer (some ⟨lx.b, lx.s, none⟩), .int .i64 0, .int .i64 1, .slice (some ⟨w.heap.size, 0, none⟩) 1 1] (w.alloc (.cells #[.int .u8 v] TU8)) fun e w' => e = .returned (.tuple #[.int .u64 0, .int .i64 er]) ∧ At B φ w0 (K n) ψ w' ∧ Apart (K n) ψ w (K n) ψ w' := by
  obtain ⟨H, he, hs⟩ := Ev.noL_ok hno
  have hx0 := row_new sr h.size v
  refine ((Ev.ev_ok B 60 _ _ _ _ _ he).2 _ #[.pointer (some ⟨lx.b, lx.s, none⟩), .int .i64 0, .int .i64 1, .slice (some ⟨w.heap.size, 0, none⟩) 1 1] _ (row_args (h.le _ _ hx) sr) hx0.sr (Nat.le_trans h.size hx0.size)).mono ?_
  rintro e w' ⟨u, ψ', rfl, hu, hx1⟩
  have hu : some (Value.tuple #[.int .u64 0, .int .i64 er]) = some u := hu
  cases hu
  have hw := (hx0.trans hx1).wide (hf.syms n hn)
  exact ⟨rfl, h.back hw hs, Apart.of_back hw⟩
/-- what the law wants of the next message -/
def wantL (n T L : Nat) : Int := if T ≤ n then 4 else if L ≤ n then 7 else 0
theorem sub_at (ht : Two φ T L) (hf : FactsL m K E W Bd) {n : Nat} (hn : n ≤ 7) (hnT : n ≤ T) (hnL : n ≤ L) (h : At B φ w0 (K n) ψ w) (h2 : 2 ≤ T) (h3 : T ≤ 7) (h4 : 1 ≤ L) (h5 : L ≤ 30) {v : Int} (hv : n < T → n < L → v = n) {lx : Ev.Loc} (hx : φ m.x = some lx) :
    Calls Tryz.prog fSubmit #[.pointer (some ⟨lx.b, lx.s, none⟩), .int .i64 0, .int .i64 1, .slice (some ⟨w.heap.size, 0, none⟩) 1 1] (w.alloc (.cells #[.int .u8 v] TU8)) fun e w' =>
      (n < T ∧ n < L ∧ e = .returned (.tuple #[.int .u64 ((n : Int) + 1), .int .i64 0]) ∧ ∃ ψ', At B φ w0 (K (n + 1)) ψ' w' ∧ Apart (K n) ψ w (K (n + 1)) ψ' w') ∨
      ((T = n ∨ (n < T ∧ L = n)) ∧ e = .returned (.tuple #[.int .u64 0, .int .i64 (if T = n then 4 else 7)]) ∧ At B φ w0 (K n) ψ w' ∧ Apart (K n) ψ w (K n) ψ w') := by
  by_cases hT : T = n
  · have sr := two_nar ht hf hn h (a := n) (b := n) (c := n) (d := 30) (by omega) (by omega) (by omega) h5
    refine (no_at hf hn h sr (hf.full n (by omega) hn v) hx).mono ?_
    rintro e w' ⟨rfl, k1, k2⟩
    exact .inr ⟨.inl hT, by rw [if_pos hT], k1, k2⟩
  · by_cases hL : L = n
    · have sr := two_nar ht hf hn h (a := n + 1) (b := 7) (c := n) (d := n) (by omega) h3 (by omega) (by omega)
      refine (no_at hf hn h sr (hf.spent n (by omega) (by omega) v) hx).mono ?_
      rintro e w' ⟨rfl, k1, k2⟩
      exact .inr ⟨.inr ⟨by omega, hL⟩, by rw [if_neg hT], k1, k2⟩
    · have e := hv (by omega) (by omega)
      subst e
      refine (fit_at ht hf (by omega) h (by omega) h2 h3 (by omega) h5 hx).mono ?_
      rintro e w' ⟨rfl, k1⟩
      exact .inl ⟨by omega, by omega, rfl, k1⟩
/-- a call that tells, and changes nothing -/
theorem tell_at {Kn : Ev.Hp} (h : At B φ w0 Kn ψ w) {f : FuncId} {l : List Ev.TV} {v : Ev.TV} {H : Ev.Hp} (he : Ev.ev 60 f l Kn = some (v, H)) (hs : Ev.subT Kn.t H.t = true) {args : Array Value} (ha : Ev.tvsV ψ l = some args.toList) :
    Calls Tryz.prog f args w fun e w' => ∃ u ψ', e = .returned u ∧ Ev.tvV ψ' v = some u ∧ At B φ w0 Kn ψ w' ∧ Apart Kn ψ w Kn ψ w' := by
  refine (h.call he ha).mono ?_
  rintro e w' ⟨u, ψ', rfl, hu, hx, _⟩
  exact ⟨u, ψ', rfl, hu, h.back hx hs, Apart.of_back hx⟩
theorem held_at (hf : FactsL m K E W Bd) {n : Nat} (hn : n ≤ 7) (h : At B φ w0 (K n) ψ w) {lx : Ev.Loc} (hx : φ m.x = some lx) :
    Calls Tryz.prog fHeld #[.pointer (some ⟨lx.b, lx.s, none⟩), .int .i64 0] w fun e w' => (∃ k : Int, e = .returned (.tuple #[.int .i64 n, .int .i64 k])) ∧ At B φ w0 (K n) ψ w' ∧ Apart (K n) ψ w (K n) ψ w' := by
  obtain ⟨k, H, he, hs⟩ := Ev.heldL_ok (hf.held n hn)
  refine (tell_at h he hs (args := #[.pointer (some ⟨lx.b, lx.s, none⟩), .int .i64 0]) (Ev.tvs_cons (Ev.tv_pt (h.le _ _ hx)) rfl)).mono ?_
  rintro e w' ⟨u, ψ', rfl, hu, k1, k2⟩
  have hu : some (Value.tuple #[.int .i64 n, .int .i64 k]) = some u := hu
  cases hu
  exact ⟨⟨k, rfl⟩, k1, k2⟩
end
end Go.Proofs.YtajhndakkaniaaaGreatDoor
