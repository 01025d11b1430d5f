/- Memory under names: what is not told any more; states that are told by numbers. General: no program in sight. -/
import Derived.Test.YtajhndakkaniaaaGreatDoorEvZ
import Derived.Below
namespace Go.Proofs.YtajhndakkaniaaaGreatDoor
open Go

namespace Ev
/-- the first cells of a row -/
noncomputable def cvsPre : List CV → List CV → Bool
  | [], _ => true
  | a :: l, b :: m => cvEq a b && cvsPre l m
  | _ :: _, [] => false
theorem cvsPre_ok : ∀ {l m : List CV}, cvsPre l m = true → l.length ≤ m.length ∧ ∀ (j : Nat) (q : CV), l[j]? = some q → m[j]? = some q
  | [], _, _ => ⟨Nat.zero_le _, fun j q h => by simp at h⟩
  | _ :: _, [], h => by cases h
  | a :: l, b :: m, h => by
    simp only [cvsPre, Bool.and_eq_true] at h
    obtain ⟨h1, h2⟩ := cvsPre_ok h.2
    refine ⟨Nat.succ_le_succ h1, fun j q hq => ?_⟩
    cases j with
    | zero =>
      rw [List.getElem?_cons_zero] at hq ⊢
      rw [← cvEq_ok h.1]
      exact hq
    | succ j =>
      rw [List.getElem?_cons_succ] at hq ⊢
      exact h2 j q hq
noncomputable def ensEq : List (List CV × CV) → List (List CV × CV) → Bool
  | [], [] => true
  | a :: l, b :: m => cvsEq a.1 b.1 && (cvEq a.2 b.2 && ensEq l m)
  | _, _ => false
theorem ensEq_ok : ∀ {l m : List (List CV × CV)}, ensEq l m = true → l = m
  | [], [], _ => rfl
  | [], _ :: _, h => by cases h
  | _ :: _, [], h => by cases h
  | (a, c) :: l, (b, d) :: m, h => by
    simp only [ensEq, Bool.and_eq_true] at h
    rw [cvsEq_ok h.1, cvEq_ok h.2.1, ensEq_ok h.2.2]
/-- a block tells no more than another one -/
noncomputable def aoLe : AO → AO → Bool
  | .cells T st l, .cells T' st' l' => Nat.beq T T' && ((st == st') && cvsPre l l')
  | .map l, .map l' => ensEq l l'
  | .sym a b, .sym a' b' => Nat.ble a a' && Nat.ble b' b
  | _, _ => false
theorem aoLe_ok {P : Program} {φ : Ren} {l : Loc} {a b : AO} {o : Obj} (h : aoLe a b = true) (k : objR P φ l b o) : objR P φ l a o := by
  unfold aoLe at h
  split at h
  · simp only [Bool.and_eq_true, beq_iff_eq] at h
    obtain ⟨c, fz, i, h1, h2, h3, h4, h5, h6⟩ := k
    obtain ⟨m1, m2⟩ := cvsPre_ok h.2.2
    have e := nb h.1
    subst e
    rw [← h.2.1] at h5
    exact ⟨c, fz, i, h1, h2, h3, ⟨Nat.le_trans m1 h4.1, h4.2⟩, h5, fun j q hq => h6 j q (m2 j q hq)⟩
  · rw [ensEq_ok h]
    exact k
  · simp only [Bool.and_eq_true] at h
    have h1 := Nat.le_of_ble_eq_true h.1
    have h2 := Nat.le_of_ble_eq_true h.2
    exact ⟨Nat.le_trans h1 k.1, Nat.le_trans k.2 h2⟩
  · cases h
noncomputable def oLe : Option AO → Option AO → Bool
  | none, _ => true
  | some a, some b => aoLe a b
  | some _, none => false
/-- of each block of the one the other one has it -/
noncomputable def subT (t : Tr AO) : Tr AO → Bool :=
  Tr.rec (motive := fun _ => Tr AO → Bool) (fun _ => true) (fun v _ _ fl fr s => Tr.casesOn (motive := fun _ => Bool) s (oLe v none && (fl .nil && fr .nil)) (fun v' l' r' => oLe v v' && (fl l' && fr r'))) t
theorem subT_ok : ∀ {t s : Tr AO} {x : Bn} {a : AO}, subT t s = true → t.get x = some a → ∃ b, s.get x = some b ∧ aoLe a b = true
  | .nil, _, x, a, _, h => by rw [Tr.get_nil] at h; cases h
  | .node v l r, .nil, x, a, k, h => by
    have k : (oLe v none && (subT l .nil && subT r .nil)) = true := k
    simp only [Bool.and_eq_true] at k
    cases x with
    | z =>
      have h : v = some a := h
      rw [h] at k
      cases k.1
    | o x =>
      obtain ⟨b, h1, _⟩ := subT_ok (x := x) k.2.1 h
      rw [Tr.get_nil] at h1
      cases h1
    | i x =>
      obtain ⟨b, h1, _⟩ := subT_ok (x := x) k.2.2 h
      rw [Tr.get_nil] at h1
      cases h1
  | .node v l r, .node v' l' r', x, a, k, h => by
    have k : (oLe v v' && (subT l l' && subT r r')) = true := k
    simp only [Bool.and_eq_true] at k
    cases x with
    | z =>
      have h : v = some a := h
      have k1 := k.1
      rw [h] at k1
      cases v' with
      | none => cases k1
      | some b => exact ⟨b, rfl, k1⟩
    | o x => exact subT_ok (x := x) k.2.1 h
    | i x => exact subT_ok (x := x) k.2.2 h
noncomputable def Bn.le (a b : Bn) : Bool := Nat.ble a.num b.num
/-- memory that tells no more -/
noncomputable def subH (K H : Hp) : Bool := subT K.t H.t && Bn.le H.nx K.nx
section
variable {P : Program} {B : Nat} {φ φ' : Ren} {H H' K : Hp} {w w' : World}
theorem SR.sub (h : SR P B φ H w) (hs : subH K H = true) : SR P B φ K w := by
  unfold subH at hs
  rw [Bool.and_eq_true] at hs
  refine ⟨fun x o hx => ?_, fun x y o q l k hx hy => ?_, fun x l hl => Nat.lt_of_lt_of_le (h.fresh x l hl) (Nat.le_of_ble_eq_true hs.2)⟩
  · obtain ⟨b, h1, h2⟩ := subT_ok hs.1 hx
    obtain ⟨l, obj, k1, k2, k3, k4⟩ := h.live x b h1
    exact ⟨l, obj, k1, k2, aoLe_ok h2 k3, k4⟩
  · obtain ⟨b, h1, _⟩ := subT_ok hs.1 hx
    obtain ⟨b', h2, _⟩ := subT_ok hs.1 hy
    exact h.inj x y b b' l k h1 h2
theorem mapR.back (k : Le φ φ') {clock clock' : Nat} : ∀ {l : List (List CV × CV)} {es es' : List MapEntry}, mapR φ clock l es → mapR φ' clock' l es' → mapR φ clock' l es'
  | [], [], [], _, _ => trivial
  | _ :: _, _ :: _, _ :: _, ⟨⟨ks, h1, h2⟩, h3, _, _, h6⟩, ⟨⟨ks', m1, m2⟩, m3, m4, m5, m6⟩ => by
    have e1 := k.cvs h1
    rw [m1] at e1
    cases e1
    have e2 := k.cv h3
    rw [m3] at e2
    injection e2 with e2
    exact ⟨⟨ks, h1, m2⟩, by rw [e2]; exact h3, m4, m5, mapR.back k h6 m6⟩
  | [], _ :: _, _, h, _ => h.elim
  | [], [], _ :: _, _, h => h.elim
  | _ :: _, [], _, h, _ => h.elim
  | _ :: _, _ :: _, [], _, h => h.elim
theorem objR.back (k : Le φ φ') {l : Loc} {a : AO} {o o' : Obj} (h : objR P φ l a o) (h' : objR P φ' l a o') : objR P φ l a o' := by
  cases a with
  | cells T st cs =>
    obtain ⟨c, fz, i, h1, h2, h3, h4, h5, h6⟩ := h
    obtain ⟨c', fz', i', m1, m2, m3, m4, m5, m6⟩ := h'
    refine ⟨c', fz', i', m1, m2, m3, m4, m5, fun j q hq => ?_⟩
    obtain ⟨v, n1, n2⟩ := h6 j q hq
    obtain ⟨v', n3, n4⟩ := m6 j q hq
    have e := k.cv n2
    rw [n4] at e
    injection e with e
    exact ⟨v', n3, by rw [e]; exact n2⟩
  | map m =>
    obtain ⟨es, clock, h1, h2⟩ := h
    obtain ⟨es', clock', m1, m2⟩ := h'
    exact ⟨es', clock', m1, mapR.back k h2 m2⟩
  | sym lo hi => exact h'
/-- what was there is there again: the names are the old ones -/
theorem Ext.back (h : SR P B φ K w) (hx : Ext P B φ K w φ' H' w') (hs : subT K.t H'.t = true) : Ext P B φ K w φ K w' := by
  have live : ∀ x o, K.t.get x = some o → ∃ l obj, φ x = some l ∧ w'.heap[l.b]? = some obj ∧ objR P φ l o obj ∧ B ≤ l.b := fun x o ho => by
    obtain ⟨l, obj, h1, _, h3, h4⟩ := h.live x o ho
    obtain ⟨b, m1, m2⟩ := subT_ok hs ho
    obtain ⟨l', obj', n1, n2, n3, _⟩ := hx.sr.live x b m1
    rw [hx.le x l h1] at n1
    cases n1
    exact ⟨l, obj', h1, n2, objR.back hx.le h3 (aoLe_ok m2 n3), h4⟩
  exact ⟨Le.refl _, ⟨live, h.inj, h.fresh⟩, hx.size, hx.frame, fun x o l hx' hl => .inl ⟨x, o, l, hx', hl, rfl⟩, hx.os, hx.tape, hx.output, Nat.le_refl _⟩
/-- a number is between other bounds -/
theorem SR.narrow (h : SR P B φ H w) {x : Bn} {lo hi lo' hi' : Nat} {l : Loc} (hx : H.t.get x = some (.sym lo hi)) (hl : φ x = some l) (h1 : lo' ≤ l.c) (h2 : l.c ≤ hi') : SR P B φ (H.set x (.sym lo' hi')) w := by
  obtain ⟨l', obj, k1, k2, _, _⟩ := h.live x _ hx
  rw [hl] at k1
  cases k1
  exact (h.put (a := .sym lo' hi') (w' := w) hx hl k2 (fun _ _ => rfl) rfl ⟨rfl, rfl, rfl⟩ ⟨h1, h2⟩).sr
/-- a cell that nobody tells of -/
theorem tail_ok (h : SR P B φ H w) {x : Bn} {T : TypeId} {st : Bool} {cs : List CV} {l : Loc} {j : Nat} {u : Value} (hx : H.cells x = some (T, st, cs)) (hl : φ x = some l) (hj : l.s + cs.length ≤ j) : Ext P B φ H w φ H (w.setCell ⟨l.b, j, none⟩ u) := by
  obtain ⟨l', c, fz, i, h1, h2, h3, h4, h5, h6, h7, h8⟩ := h.block hx
  rw [hl] at h1
  cases h1
  have hget := Hp.cells_get hx
  have hlt := h.lt hget hl
  have hh : (w.setCell ⟨l.b, j, none⟩ u).heap[l.b]? = some (.cells (c.setIfInBounds j u) T fz) := by
    show (w.heap.modify l.b _)[l.b]? = _
    have e1 := (Array.getElem?_eq_some_iff.1 h2).2
    rw [Array.getElem?_eq_getElem (by rw [Array.size_modify]; exact hlt), Array.getElem_modify_self, e1]
    rfl
  have ho : ∀ b, b ≠ l.b → (w.setCell ⟨l.b, j, none⟩ u).heap[b]? = w.heap[b]? := fun b hb => setCells_other l.b [u] j w b hb
  have hsz : (w.setCell ⟨l.b, j, none⟩ u).heap.size = w.heap.size := setCells_size l.b [u] j w
  have key := h.put (a := .cells T st cs) (w' := w.setCell ⟨l.b, j, none⟩ u) hget hl hh ho hsz ⟨rfl, rfl, rfl⟩ ⟨c.setIfInBounds j u, fz, i, rfl, h3, by simpa using h4, h5, by simpa using h6, fun q cv hq => by
    obtain ⟨v, m1, m2⟩ := h7 q cv hq
    refine ⟨v, ?_, m2⟩
    have hne : ¬ j = l.s + q := fun e => by
      have := (List.getElem?_eq_some_iff.1 hq).1
      omega
    rw [Array.getElem?_setIfInBounds, if_neg hne]
    exact m1⟩
  have same : ∀ y, (H.set x (.cells T st cs)).t.get y = H.t.get y := fun y => by
    by_cases e : y = x
    · subst e
      rw [hget]
      exact Tr.get_upd _ _ _
    · exact Tr.get_other _ _ _ _ e
  obtain ⟨k1, k2, k3, k4, k5, k6, k7, k8, k9⟩ := key
  refine ⟨k1, ⟨fun y o hy => k2.live y o (by rw [same]; exact hy), fun y y2 o q l k hy hy2 => k2.inj y y2 o q l k (by rw [same]; exact hy) (by rw [same]; exact hy2), k2.fresh⟩, k3, k4, fun y o l hy hl => k5 y o l (by rw [same]; exact hy) hl, k6, k7, k8, k9⟩
/-- one cell more is told -/
theorem SR.grow (h : SR P B φ K w) (k : SR P B φ H w) {x : Bn} {T T' : TypeId} {st st' : Bool} {c r : List CV} {q : CV} (hx : K.cells x = some (T, st, c)) (hy : H.cells x = some (T', st', r)) (hq : r[c.length]? = some q) : SR P B φ (K.set x (.cells T st (c ++ [q]))) w := by
  obtain ⟨l, c0, fz, i, h1, h2, h3, h4, h5, h6, h7, h8⟩ := h.block hx
  obtain ⟨l', c0', fz', i', k1, k2, k3, k4, k5, k6, k7, k8⟩ := k.block hy
  rw [h1] at k1
  cases k1
  rw [h2] at k2
  cases k2
  rw [h3] at k3
  cases k3
  obtain ⟨v, m1, m2⟩ := k7 _ _ hq
  have hlt := (List.getElem?_eq_some_iff.1 hq).1
  refine (h.put (a := .cells T st (c ++ [q])) (w' := w) (Hp.cells_get hx) h1 h2 (fun _ _ => rfl) rfl ⟨rfl, rfl, rfl⟩ ⟨c0, fz, i, rfl, h3, h4, ?_, h6, fun j p hp => ?_⟩).sr
  · rw [List.length_append, List.length_singleton]
    exact ⟨by omega, h5.2⟩
  · by_cases e : j < c.length
    · rw [List.getElem?_append_left e] at hp
      exact h7 j p hp
    · rw [List.getElem?_append_right (by omega)] at hp
      have e0 : j - c.length = 0 := by
        by_cases e0 : j - c.length = 0
        · exact e0
        · rw [List.getElem?_eq_none (by rw [List.length_singleton]; omega)] at hp
          cases hp
      rw [e0, List.getElem?_cons_zero] at hp
      cases hp
      have : j = c.length := by omega
      rw [this]
      exact ⟨v, m1, m2⟩
/-- nothing below is touched -/
theorem Ext.under (h : SR P B φ H w) (hx : Ext P B φ H w φ' H' w') (hB : B ≤ w.heap.size) {n : Nat} (hn : n ≤ B) : RowKit.Below n w w' :=
  ⟨hx.os, hx.tape, hx.output, hx.size, fun b hb => hx.frame b (by omega) fun x o l ho hl e => by
    obtain ⟨l', _, h1, _, _, h4⟩ := h.live x o ho
    rw [hl] at h1
    cases h1
    omega⟩
end
end Ev
end Go.Proofs.YtajhndakkaniaaaGreatDoor
/- Memory under names, told by numbers: one number a block, its digits of sixteen bits. General: no program in sight. -/
namespace Go.Proofs.YtajhndakkaniaaaGreatDoor
open Go

namespace Ev
noncomputable def dg (n : Nat) : Nat := Nat.land n 65535
noncomputable def rs (n : Nat) : Nat := Nat.shiftRight n 16
/-- a number, and what is behind it -/
noncomputable def vr (n : Nat) : Nat × Nat := match Nat.beq (dg n) 65535 with
  | false => (dg n, rs n)
  | true => (Nat.land (rs n) 1208925819614629174706175, Nat.shiftRight n 96)
noncomputable def kdOf (n : Nat) : IntKind := match n with
  | 0 => .i64
  | 1 => .u64
  | 2 => .u8
  | 3 => .i32
  | 4 => .u32
  | 5 => .u16
  | 6 => .i16
  | _ => .i8
noncomputable def dPts : Nat → Nat → List (Bn × Nat) × Nat
  | 0, n => ([], n)
  | c + 1, n => ((key (vr n).1, (vr (vr n).2).1) :: (dPts c (vr (vr n).2).2).1, (dPts c (vr (vr n).2).2).2)
noncomputable def dBytes : Nat → Nat → List UInt8 × Nat
  | 0, n => ([], n)
  | c + 1, n => (UInt8.ofNat (dg n) :: (dBytes c (rs n)).1, (dBytes c (rs n)).2)
/-- a cell, by its tag -/
noncomputable def dTag (t n : Nat) : CV × Nat := match t with
  | 0 => (.k (.pointer none), n)
  | 1 => (.k (.bool false), n)
  | 2 => (.k (.bool true), n)
  | 3 => (.k .nilIface, n)
  | 4 => (.k .nilFunc, n)
  | 5 => (.k (.map none), n)
  | 6 => (.k (.slice none 0 0), n)
  | 7 => (.p (key (vr n).1) (vr (vr n).2).1, (vr (vr n).2).2)
  | 8 => (.s (key (vr n).1) (vr (vr n).2).1 (vr (vr (vr n).2).2).1 (vr (vr (vr (vr n).2).2).2).1 (vr (vr (vr (vr (vr n).2).2).2).2).1, (vr (vr (vr (vr (vr n).2).2).2).2).2)
  | 9 => (.m (key (vr n).1), (vr n).2)
  | 10 => (.i (vr n).1 (key (vr (vr n).2).1) (vr (vr (vr n).2).2).1, (vr (vr (vr n).2).2).2)
  | 11 => (.f (vr n).1 (dPts (vr (vr n).2).1 (vr (vr n).2).2).1, (dPts (vr (vr n).2).1 (vr (vr n).2).2).2)
  | 12 => (.k (.int (kdOf (dg n)) (Int.ofNat (vr (rs n)).1)), (vr (rs n)).2)
  | 13 => (.k (.int (kdOf (dg n)) (Int.negSucc (vr (rs n)).1)), (vr (rs n)).2)
  | 14 => (.k (.string ⟨(dBytes (vr n).1 (vr n).2).1.toArray⟩), (dBytes (vr n).1 (vr n).2).2)
  | 15 => (.u (kdOf (dg n)) (key (vr (rs n)).1) false (Int.ofNat (vr (vr (rs n)).2).1), (vr (vr (rs n)).2).2)
  | _ => (.u (kdOf (dg n)) (key (vr (rs n)).1) true (Int.ofNat (vr (vr (rs n)).2).1), (vr (vr (rs n)).2).2)
noncomputable def dCV (n : Nat) : CV × Nat := match Nat.ble 40000 (dg n) with
  | false => (.k (.int .i64 (Int.ofNat (dg n))), rs n)
  | true => match Nat.ble 40100 (dg n) with
    | true => (.k (.int .u8 (Int.ofNat (Nat.sub (dg n) 40100))), rs n)
    | false => dTag (Nat.sub (dg n) 40000) (rs n)
noncomputable def dCVs (c : Nat) : Nat → List CV × Nat :=
  Nat.rec (motive := fun _ => Nat → List CV × Nat) (fun n => ([], n)) (fun _ ih n => ((dCV n).1 :: (ih (dCV n).2).1, (ih (dCV n).2).2)) c
noncomputable def dEns (c : Nat) : Nat → List (List CV × CV) × Nat :=
  Nat.rec (motive := fun _ => Nat → List (List CV × CV) × Nat) (fun n => ([], n)) (fun _ ih n => (((dCVs (vr n).1 (vr n).2).1, (dCV (dCVs (vr n).1 (vr n).2).2).1) :: (ih (dCV (dCVs (vr n).1 (vr n).2).2).2).1, (ih (dCV (dCVs (vr n).1 (vr n).2).2).2).2)) c
/-- a block: which kind, then what it holds -/
noncomputable def dAO (n : Nat) : AO := match dg n with
  | 0 => .cells (vr (rs n)).1 false (dCVs (vr (vr (rs n)).2).1 (vr (vr (rs n)).2).2).1
  | 1 => .cells (vr (rs n)).1 true (dCVs (vr (vr (rs n)).2).1 (vr (vr (rs n)).2).2).1
  | 2 => .map (dEns (vr (rs n)).1 (vr (rs n)).2).1
  | _ => .sym (vr (rs n)).1 (vr (vr (rs n)).2).1
/-- memory: the next name, then blocks with their names ahead -/
noncomputable def dT (l : List Nat) : Tr AO :=
  List.rec (motive := fun _ => Tr AO) .nil (fun n _ ih => ih.upd (some (dAO (vr n).2)) (key (vr n).1)) l
noncomputable def dHp (nx : Nat) (l : List Nat) : Hp := ⟨dT l, key nx⟩
end Ev
end Go.Proofs.YtajhndakkaniaaaGreatDoor
/- A run that goes by rounds, each of them evaluated. General: no program in sight. -/
namespace Go.Proofs.YtajhndakkaniaaaGreatDoor
open Go

namespace Ev
abbrev ptTV (x : Bn) : TV := .s (.c (.p x 0))
abbrev boTV (b : Bool) : TV := .s (.c (.k (.bool b)))
/-- some rounds -/
noncomputable def segE (ev : Cl) (fI fR : FuncId) (x : Bn) (n : Nat) : Hp → Option Hp :=
  Nat.rec (motive := fun _ => Hp → Option Hp) (fun H => some H) (fun _ ih H => match ev fI [ptTV x] H with
    | some (.s (.c (.k (.bool false))), H1) => match ev fR [ptTV x] H1 with
      | some (_, H2) => ih H2
      | none => none
    | _ => none) n
noncomputable def segOk (ev : Cl) (fI fR : FuncId) (x : Bn) (n : Nat) (H K : Hp) : Bool := match segE ev fI fR x n H with
  | some H' => subH K H'
  | none => false
noncomputable def endOk (ev : Cl) (fI : FuncId) (x : Bn) (H F : Hp) : Bool := match ev fI [ptTV x] H with
  | some (.s (.c (.k (.bool true))), H') => subH F H'
  | _ => false
theorem segE_succ {ev : Cl} {fI fR : FuncId} {x : Bn} {n : Nat} {H : Hp} : segE ev fI fR x (n + 1) H = (match ev fI [ptTV x] H with
    | some (.s (.c (.k (.bool false))), H1) => match ev fR [ptTV x] H1 with
      | some (_, H2) => segE ev fI fR x n H2
      | none => none
    | _ => none) := rfl
/-- what is in the one is in the other one -/
noncomputable def Sub (K H : Hp) : Prop := ∀ (P : Program) (B : Nat) (φ : Ren) (w : World), SR P B φ H w → SR P B φ K w
/-- the same, where memory is known by what it tells -/
inductive Ends (ev : Cl) (fI fR : FuncId) (x : Bn) (F : Hp) : Nat → Hp → Prop
  | done {H H' : Hp} (h : ev fI [ptTV x] H = some (boTV true, H')) (hs : Sub F H') : Ends ev fI fR x F 0 H
  | more {m : Nat} {H H1 H2 K : Hp} {v : TV} (h1 : ev fI [ptTV x] H = some (boTV false, H1)) (h2 : ev fR [ptTV x] H1 = some (v, H2)) (hs : Sub K H2) (hk : Ends ev fI fR x F m K) : Ends ev fI fR x F (m + 1) H
theorem Sub.refl (H : Hp) : Sub H H := fun _ _ _ _ h => h
theorem Sub.of {K H : Hp} (h : subH K H = true) : Sub K H := fun _ _ _ _ sr => sr.sub h
theorem endOk_ok {ev : Cl} {fI fR : FuncId} {x : Bn} {H F : Hp} (h : endOk ev fI x H F = true) : Ends ev fI fR x F 0 H := by
  unfold endOk at h
  split at h
  · rename_i e
    exact .done e (.of h)
  · cases h
theorem segE_ok {ev : Cl} {fI fR : FuncId} {x : Bn} {F K : Hp} {m : Nat} (hk : Ends ev fI fR x F m K) : ∀ (n : Nat) {H : Hp}, segOk ev fI fR x (n + 1) H K = true → Ends ev fI fR x F (m + n + 1) H
  | 0, H, h => by
    unfold segOk at h
    rw [segE_succ] at h
    split at h
    · rename_i H' e
      split at e
      · rename_i H1 e1
        split at e
        · rename_i v H2 e2
          cases e
          exact .more e1 e2 (.of h) hk
        · cases e
      · cases e
    · cases h
  | n + 1, H, h => by
    unfold segOk at h
    rw [segE_succ] at h
    split at h
    · rename_i H' e
      split at e
      · rename_i H1 e1
        split at e
        · rename_i v H2 e2
          have : segOk ev fI fR x (n + 1) H2 K = true := by
            unfold segOk
            rw [e]
            exact h
          exact .more e1 e2 (.refl _) (segE_ok hk n this)
        · cases e
      · cases e
    · cases h
end Ev
end Go.Proofs.YtajhndakkaniaaaGreatDoor
