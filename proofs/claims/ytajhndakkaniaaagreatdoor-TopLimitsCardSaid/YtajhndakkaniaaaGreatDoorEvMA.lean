/- An evaluator for closed runs: values, memory by names, and what each operation does. General: no program in sight. -/
import Derived.Calls
import Derived.Laws.IdiomCopy
import Derived.Laws.Append
import Derived.ChangeKeysEq
import Derived.ArgAppend
import Derived.Laws.AppendOwn
import Derived.RowKit
namespace Go.Proofs.YtajhndakkaniaaaGreatDoor
open Go

namespace Ev
/-- names, and places in a tree -/
inductive Bn where
  | z
  | o (b : Bn)
  | i (b : Bn)
noncomputable def Bn.beq : Bn → Bn → Bool
  | .z, .z => true
  | .o a, .o b => Bn.beq a b
  | .i a, .i b => Bn.beq a b
  | _, _ => false
noncomputable def Bn.succ : Bn → Bn
  | .z => .o .z
  | .o b => .i b
  | .i b => .o b.succ
noncomputable def Bn.num : Bn → Nat
  | .z => 0
  | .o b => 2 * b.num + 1
  | .i b => 2 * b.num + 2
noncomputable def keyF : Nat → Nat → Bn
  | 0, _ => .z
  | _ + 1, 0 => .z
  | f + 1, n + 1 => match Nat.beq (n % 2) 0 with
    | true => .o (keyF f (n / 2))
    | false => .i (keyF f (n / 2))
noncomputable def key (n : Nat) : Bn := keyF n n
theorem Bn.beq_eq : ∀ {a b : Bn}, Bn.beq a b = true → a = b
  | .z, .z, _ => rfl
  | .o a, .o b, h => by rw [Bn.beq_eq (a := a) (b := b) h]
  | .i a, .i b, h => by rw [Bn.beq_eq (a := a) (b := b) h]
  | .z, .o _, h => by cases h
  | .z, .i _, h => by cases h
  | .o _, .z, h => by cases h
  | .o _, .i _, h => by cases h
  | .i _, .z, h => by cases h
  | .i _, .o _, h => by cases h
theorem Bn.beq_self : ∀ (a : Bn), Bn.beq a a = true
  | .z => rfl
  | .o a => Bn.beq_self a
  | .i a => Bn.beq_self a
theorem Bn.beq_ne {a b : Bn} (h : Bn.beq a b = false) : a ≠ b := fun e => by rw [e, Bn.beq_self] at h; cases h
theorem Bn.num_succ : ∀ (b : Bn), b.succ.num = b.num + 1
  | .z => rfl
  | .o _ => rfl
  | .i b => by
    show 2 * b.succ.num + 1 = 2 * b.num + 2 + 1
    rw [Bn.num_succ b]
    omega
theorem keyF_num : ∀ f n, n ≤ f → (keyF f n).num = n
  | 0, n, h => by
    have : n = 0 := by omega
    subst this
    rfl
  | _ + 1, 0, _ => rfl
  | f + 1, n + 1, h => by
    have ih := keyF_num f (n / 2) (by omega)
    unfold keyF
    split
    · rename_i e
      have e := Nat.eq_of_beq_eq_true e
      show 2 * (keyF f (n / 2)).num + 1 = n + 1
      rw [ih]
      omega
    · rename_i e
      have e : n % 2 ≠ 0 := fun q => by rw [q] at e; cases e
      show 2 * (keyF f (n / 2)).num + 2 = n + 1
      rw [ih]
      omega
theorem key_num (n : Nat) : (key n).num = n := keyF_num n n (Nat.le_refl n)
theorem key_inj {n m : Nat} (h : key n = key m) : n = m := by rw [← key_num n, h, key_num]
inductive Tr (α : Type) where
  | nil
  | node (v : Option α) (l r : Tr α)
/-- by the recursors: the kernel unfolds these with few steps -/
noncomputable def Tr.get {α : Type} (t : Tr α) : Bn → Option α :=
  Tr.rec (motive := fun _ => Bn → Option α) (fun _ => none) (fun v _ _ gl gr b => Bn.rec (motive := fun _ => Option α) v (fun c _ => gl c) (fun c _ => gr c) b) t
noncomputable def Tr.upd {α : Type} (x : Option α) (b : Bn) : Tr α → Tr α :=
  Bn.rec (motive := fun _ => Tr α → Tr α)
    (fun t => Tr.rec (motive := fun _ => Tr α) (.node x .nil .nil) (fun _ l r _ _ => .node x l r) t)
    (fun _ ih t => Tr.rec (motive := fun _ => Tr α) (.node none (ih .nil) .nil) (fun v l r _ _ => .node v (ih l) r) t)
    (fun _ ih t => Tr.rec (motive := fun _ => Tr α) (.node none .nil (ih .nil)) (fun v l r _ _ => .node v l (ih r)) t) b
theorem Tr.get_nil {α : Type} (b : Bn) : (Tr.nil : Tr α).get b = none := by cases b <;> rfl
theorem Tr.get_upd {α : Type} (x : Option α) : ∀ (b : Bn) (t : Tr α), (t.upd x b).get b = x
  | .z, .nil => rfl
  | .z, .node _ _ _ => rfl
  | .o b, .nil => Tr.get_upd x b .nil
  | .o b, .node _ l _ => Tr.get_upd x b l
  | .i b, .nil => Tr.get_upd x b .nil
  | .i b, .node _ _ r => Tr.get_upd x b r
theorem Tr.get_other {α : Type} (x : Option α) : ∀ (b c : Bn) (t : Tr α), c ≠ b → (t.upd x b).get c = t.get c
  | .z, .z, _, h => absurd rfl h
  | .z, .o c, .nil, _ => Tr.get_nil c
  | .z, .o _, .node _ _ _, _ => rfl
  | .z, .i c, .nil, _ => Tr.get_nil c
  | .z, .i _, .node _ _ _, _ => rfl
  | .o _, .z, .nil, _ => rfl
  | .o _, .z, .node _ _ _, _ => rfl
  | .o b, .o c, .nil, h => (Tr.get_other x b c .nil fun e => h (by rw [e])).trans (Tr.get_nil c)
  | .o b, .o c, .node _ l _, h => Tr.get_other x b c l fun e => h (by rw [e])
  | .o _, .i c, .nil, _ => Tr.get_nil c
  | .o _, .i _, .node _ _ _, _ => rfl
  | .i _, .z, .nil, _ => rfl
  | .i _, .z, .node _ _ _, _ => rfl
  | .i _, .o c, .nil, _ => Tr.get_nil c
  | .i _, .o _, .node _ _ _, _ => rfl
  | .i b, .i c, .nil, h => (Tr.get_other x b c .nil fun e => h (by rw [e])).trans (Tr.get_nil c)
  | .i b, .i c, .node _ _ r, h => Tr.get_other x b c r fun e => h (by rw [e])
/-- a list's parts, by the recursors -/
noncomputable def nth {α : Type} (l : List α) : Nat → Option α :=
  List.rec (motive := fun _ => Nat → Option α) (fun _ => none) (fun a _ ih n => Nat.rec (motive := fun _ => Option α) (some a) (fun m _ => ih m) n) l
theorem nth_eq {α : Type} : ∀ (l : List α) (n : Nat), nth l n = l[n]?
  | [], n => by cases n <;> rfl
  | a :: r, 0 => rfl
  | a :: r, n + 1 => by
    show nth r n = _
    rw [nth_eq r n]
    rfl
/-- in blocks of sixteen, which the kernel keeps -/
noncomputable def dropB {α : Type} (l : List α) (q : Nat) : List α :=
  Nat.rec (motive := fun _ => List α) l (fun _ ih => Nat.rec (motive := fun _ => List α → List α) (fun l => l) (fun _ ih l => List.rec (motive := fun _ => List α) [] (fun _ r _ => ih r) l) 16 ih) q
theorem dropB_eq {α : Type} (l : List α) : ∀ (q : Nat), dropB l q = l.drop (16 * q)
  | 0 => rfl
  | q + 1 => by
    have h : ∀ (n : Nat) (m : List α), (Nat.rec (motive := fun _ => List α → List α) (fun l => l) (fun _ ih l => List.rec (motive := fun _ => List α) [] (fun _ r _ => ih r) l) n : List α → List α) m = m.drop n := by
      intro n
      induction n with
      | zero => intro m; rfl
      | succ n ih =>
        intro m
        cases m with
        | nil => rfl
        | cons a r => exact ih r
    show (Nat.rec (motive := fun _ => List α → List α) (fun l => l) (fun _ ih l => List.rec (motive := fun _ => List α) [] (fun _ r _ => ih r) l) 16 : List α → List α) (dropB l q) = _
    rw [h, dropB_eq l q, List.drop_drop]
    congr 1
noncomputable def lookP {α : Type} (l : List α) (i : Nat) : Option α := nth (dropB l (Nat.div i 16)) (Nat.mod i 16)
theorem lookP_eq {α : Type} (l : List α) (i : Nat) : lookP l i = l[i]? := by
  unfold lookP
  rw [nth_eq, dropB_eq, List.getElem?_drop]
  congr 1
  exact Nat.div_add_mod i 16
noncomputable def inf (P : Program) (t : TypeId) : Option TypeInfo := match lookP P.types.toList t with
  | some i => some i
  | none => P.info? t
theorem inf_eq (P : Program) (t : TypeId) : inf P t = P.info? t := by
  unfold inf
  split
  · rename_i i e
    rw [lookP_eq, Array.getElem?_toList] at e
    have h : t < P.types.size := (Array.getElem?_eq_some_iff.1 e).1
    show _ = (if t < P.types.size then P.types[t]? else _)
    rw [if_pos h, e]
  · rfl
noncomputable def und (P : Program) (t : TypeId) : Option TypeDesc := match inf P t with
  | some i => match i.desc with
    | .named _ u => match inf P u with
      | some j => some j.desc
      | none => none
    | d => some d
  | none => none
theorem und_eq (P : Program) (t : TypeId) : und P t = P.underlying t := by
  unfold und Program.underlying
  rw [inf_eq]
  cases P.info? t with
  | none => rfl
  | some i =>
    obtain ⟨d, _⟩ := i
    cases d <;> first | rfl | (simp only [inf_eq]; cases P.info? _ <;> rfl)
/-- a number that is not known, added to another one, or taken off -/
noncomputable def symV (g : Bool) (n : Int) (v : Nat) : Int := match g with
  | true => n - v
  | false => n + v
/-- a cell: what holds no address; an address; a slice (offset in cells, in elements, length, the offset where there is no room); a map; an interface that holds an address; a function with captured addresses; a number that is not known -/
inductive CV where
  | k (v : Value)
  | p (x : Bn) (o : Nat)
  | s (x : Bn) (o d n e : Nat)
  | m (x : Bn)
  | i (t : TypeId) (x : Bn) (o : Nat)
  | f (f : FuncId) (cs : List (Bn × Nat))
  | u (k : IntKind) (x : Bn) (g : Bool) (n : Int)
inductive SV where
  | c (v : CV)
  | a (l : List CV)
inductive TV where
  | s (v : SV)
  | t (l : List SV)
  | i (t : TypeId) (l : List CV)
/-- a block: cells; a map from rows of numbers; a block that stands for a number that is not known -/
inductive AO where
  | cells (T : TypeId) (st : Bool) (l : List CV)
  | map (l : List (List CV × CV))
  | sym (lo hi : Nat)
structure Hp where
  t : Tr AO
  nx : Bn
abbrev Tm := Tr TV
noncomputable def SV.cells : SV → List CV
  | .c v => [v]
  | .a l => l
/-- where a block really lies: its number, how far its cells are shifted, how many elements it has room for -/
structure Loc where
  b : Nat
  s : Nat
  c : Nat
abbrev Ren := Bn → Option Loc
noncomputable def ptrV (φ : Ren) (x : Bn) (o : Nat) : Option Value := match φ x with
  | some l => some (.pointer (some ⟨l.b, l.s + o, none⟩))
  | none => none
noncomputable def ptrsV (φ : Ren) : List (Bn × Nat) → Option (List Value)
  | [] => some []
  | (x, o) :: r => match ptrV φ x o, ptrsV φ r with
    | some v, some l => some (v :: l)
    | _, _ => none
noncomputable def cvV (φ : Ren) : CV → Option Value
  | .k v => some v
  | .p x o => ptrV φ x o
  | .s x o d n e => match φ x with
    | some l => if n + d ≤ l.c then some (.slice (some ⟨l.b, l.s + (if l.c ≤ d then e else o), none⟩) n (l.c - d)) else none
    | none => none
  | .m x => match φ x with
    | some l => some (.map (some l.b))
    | none => none
  | .i t x o => match ptrV φ x o with
    | some v => some (.iface t v)
    | none => none
  | .f f cs => match ptrsV φ cs with
    | some l => some (.func (.func f) #[] l.toArray)
    | none => none
  | .u k x g n => match φ x with
    | some l => some (.int k (symV g n l.c))
    | none => none
noncomputable def cvsV (φ : Ren) : List CV → Option (List Value)
  | [] => some []
  | c :: r => match cvV φ c, cvsV φ r with
    | some v, some l => some (v :: l)
    | _, _ => none
noncomputable def svV (φ : Ren) : SV → Option Value
  | .c v => cvV φ v
  | .a l => match cvsV φ l with
    | some vs => some (.agg vs.toArray)
    | none => none
noncomputable def svsV (φ : Ren) : List SV → Option (List Value)
  | [] => some []
  | c :: r => match svV φ c, svsV φ r with
    | some v, some l => some (v :: l)
    | _, _ => none
noncomputable def tvV (φ : Ren) : TV → Option Value
  | .s v => svV φ v
  | .t l => match svsV φ l with
    | some vs => some (.tuple vs.toArray)
    | none => none
  | .i t l => match cvsV φ l with
    | some vs => some (.iface t (.agg vs.toArray))
    | none => none
noncomputable def tvsV (φ : Ren) : List TV → Option (List Value)
  | [] => some []
  | c :: r => match tvV φ c, tvsV φ r with
    | some v, some l => some (v :: l)
    | _, _ => none
/-- more is named -/
noncomputable def Le (φ φ' : Ren) : Prop := ∀ x l, φ x = some l → φ' x = some l
theorem Le.refl (φ : Ren) : Le φ φ := fun _ _ h => h
theorem Le.trans {φ φ' φ'' : Ren} (h : Le φ φ') (k : Le φ' φ'') : Le φ φ'' := fun x l e => k x l (h x l e)
section
variable {φ φ' : Ren}
theorem Le.ptr (h : Le φ φ') {x : Bn} {o : Nat} {v : Value} (e : ptrV φ x o = some v) : ptrV φ' x o = some v := by
  simp only [ptrV] at *
  cases hx : φ x with
  | none => rw [hx] at e; cases e
  | some l => rw [hx] at e; rw [h x l hx]; exact e
theorem Le.ptrs (h : Le φ φ') : ∀ {l : List (Bn × Nat)} {vs : List Value}, ptrsV φ l = some vs → ptrsV φ' l = some vs
  | [], _, e => e
  | (x, o) :: r, vs, e => by
    simp only [ptrsV] at *
    cases h1 : ptrV φ x o with
    | none => rw [h1] at e; cases e
    | some v =>
      cases h2 : ptrsV φ r with
      | none => rw [h1, h2] at e; cases e
      | some l => rw [h1, h2] at e; rw [h.ptr h1, h.ptrs h2]; exact e
theorem Le.cv (h : Le φ φ') {c : CV} {v : Value} (e : cvV φ c = some v) : cvV φ' c = some v := by
  cases c with
  | k u => exact e
  | p x o => exact h.ptr e
  | s x o d n q =>
    simp only [cvV] at *
    cases hx : φ x with
    | none => rw [hx] at e; cases e
    | some l => rw [hx] at e; rw [h x l hx]; exact e
  | m x =>
    simp only [cvV] at *
    cases hx : φ x with
    | none => rw [hx] at e; cases e
    | some l => rw [hx] at e; rw [h x l hx]; exact e
  | i t x o =>
    simp only [cvV] at *
    cases hx : ptrV φ x o with
    | none => rw [hx] at e; cases e
    | some l => rw [hx] at e; rw [h.ptr hx]; exact e
  | f f cs =>
    simp only [cvV] at *
    cases hx : ptrsV φ cs with
    | none => rw [hx] at e; cases e
    | some l => rw [hx] at e; rw [h.ptrs hx]; exact e
  | u k x g n =>
    simp only [cvV] at *
    cases hx : φ x with
    | none => rw [hx] at e; cases e
    | some l => rw [hx] at e; rw [h x l hx]; exact e
theorem Le.cvs (h : Le φ φ') : ∀ {l : List CV} {vs : List Value}, cvsV φ l = some vs → cvsV φ' l = some vs
  | [], _, e => e
  | c :: r, vs, e => by
    simp only [cvsV] at *
    cases h1 : cvV φ c with
    | none => rw [h1] at e; cases e
    | some v =>
      cases h2 : cvsV φ r with
      | none => rw [h1, h2] at e; cases e
      | some l => rw [h1, h2] at e; rw [h.cv h1, h.cvs h2]; exact e
theorem Le.sv (h : Le φ φ') {c : SV} {v : Value} (e : svV φ c = some v) : svV φ' c = some v := by
  cases c with
  | c u => exact h.cv e
  | a l =>
    simp only [svV] at *
    cases hx : cvsV φ l with
    | none => rw [hx] at e; cases e
    | some l => rw [hx] at e; rw [h.cvs hx]; exact e
theorem Le.svs (h : Le φ φ') : ∀ {l : List SV} {vs : List Value}, svsV φ l = some vs → svsV φ' l = some vs
  | [], _, e => e
  | c :: r, vs, e => by
    simp only [svsV] at *
    cases h1 : svV φ c with
    | none => rw [h1] at e; cases e
    | some v =>
      cases h2 : svsV φ r with
      | none => rw [h1, h2] at e; cases e
      | some l => rw [h1, h2] at e; rw [h.sv h1, h.svs h2]; exact e
theorem Le.tv (h : Le φ φ') {c : TV} {v : Value} (e : tvV φ c = some v) : tvV φ' c = some v := by
  cases c with
  | s u => exact h.sv e
  | t l =>
    simp only [tvV] at *
    cases hx : svsV φ l with
    | none => rw [hx] at e; cases e
    | some l => rw [hx] at e; rw [h.svs hx]; exact e
  | i t l =>
    simp only [tvV] at *
    cases hx : cvsV φ l with
    | none => rw [hx] at e; cases e
    | some l => rw [hx] at e; rw [h.cvs hx]; exact e
theorem Le.tvs (h : Le φ φ') : ∀ {l : List TV} {vs : List Value}, tvsV φ l = some vs → tvsV φ' l = some vs
  | [], _, e => e
  | c :: r, vs, e => by
    simp only [tvsV] at *
    cases h1 : tvV φ c with
    | none => rw [h1] at e; cases e
    | some v =>
      cases h2 : tvsV φ r with
      | none => rw [h1, h2] at e; cases e
      | some l => rw [h1, h2] at e; rw [h.tv h1, h.tvs h2]; exact e
end
theorem cvsV_cons {φ : Ren} {c : CV} {r : List CV} {vs : List Value} (h : cvsV φ (c :: r) = some vs) : ∃ v l, cvV φ c = some v ∧ cvsV φ r = some l ∧ vs = v :: l := by
  simp only [cvsV] at h
  cases h1 : cvV φ c with
  | none => rw [h1] at h; cases h
  | some v =>
    cases h2 : cvsV φ r with
    | none => rw [h1, h2] at h; cases h
    | some l => rw [h1, h2] at h; cases h; exact ⟨v, l, rfl, rfl, rfl⟩
theorem cvsV_mk {φ : Ren} {c : CV} {r : List CV} {v : Value} {l : List Value} (h1 : cvV φ c = some v) (h2 : cvsV φ r = some l) : cvsV φ (c :: r) = some (v :: l) := by
  simp only [cvsV]
  rw [h1, h2]
theorem cvsV_len {φ : Ren} : ∀ {l : List CV} {vs : List Value}, cvsV φ l = some vs → vs.length = l.length
  | [], vs, h => by cases h; rfl
  | c :: r, vs, h => by
    obtain ⟨v, l, _, h2, rfl⟩ := cvsV_cons h
    rw [List.length_cons, List.length_cons, cvsV_len h2]
theorem cvsV_get {φ : Ren} : ∀ {l : List CV} {vs : List Value}, cvsV φ l = some vs → ∀ (i : Nat) (c : CV), l[i]? = some c → ∃ v, vs[i]? = some v ∧ cvV φ c = some v
  | [], _, _, i, c, h => by cases i <;> cases h
  | c :: r, vs, h, i, q, hi => by
    obtain ⟨v, l, h1, h2, rfl⟩ := cvsV_cons h
    cases i with
    | zero => cases hi; exact ⟨v, rfl, h1⟩
    | succ i => exact cvsV_get h2 i q hi
/-- a row of cells is what its cells are -/
theorem cvsV_of {φ : Ren} : ∀ {l : List CV} {vs : List Value}, vs.length = l.length → (∀ (i : Nat) (c : CV), l[i]? = some c → ∃ v, vs[i]? = some v ∧ cvV φ c = some v) → cvsV φ l = some vs
  | [], [], _, _ => rfl
  | [], _ :: _, h, _ => by cases h
  | _ :: _, [], h, _ => by cases h
  | c :: r, v :: l, h, k => by
    obtain ⟨u, h1, h2⟩ := k 0 c rfl
    cases h1
    exact cvsV_mk h2 (cvsV_of (by simpa using h) fun i q hi => k (i + 1) q hi)
theorem cvsV_ex {φ : Ren} : ∀ {l : List CV}, (∀ (i : Nat) (c : CV), l[i]? = some c → ∃ v, cvV φ c = some v) → ∃ vs, cvsV φ l = some vs
  | [], _ => ⟨[], rfl⟩
  | c :: r, k => by
    obtain ⟨v, h1⟩ := k 0 c rfl
    obtain ⟨l, h2⟩ := cvsV_ex (l := r) fun i q hi => k (i + 1) q hi
    exact ⟨v :: l, cvsV_mk h1 h2⟩
theorem cvsV_app {φ : Ren} : ∀ {l m : List CV} {vs us : List Value}, cvsV φ l = some vs → cvsV φ m = some us → cvsV φ (l ++ m) = some (vs ++ us)
  | [], _, vs, _, h, k => by cases h; exact k
  | c :: r, m, vs, us, h, k => by
    obtain ⟨v, l, h1, h2, rfl⟩ := cvsV_cons h
    exact cvsV_mk h1 (cvsV_app h2 k)
theorem cvV_one {φ : Ren} {c : CV} {v : Value} (h : cvV φ c = some v) (hk : ∀ u, c = .k u → u.oneCell' = true) : v.oneCell' = true := by
  cases c with
  | k u =>
    cases h
    exact hk v rfl
  | p x o =>
    simp only [cvV, ptrV] at h
    cases hx : φ x with
    | none => rw [hx] at h; cases h
    | some l => rw [hx] at h; cases h; rfl
  | s x o d n q =>
    simp only [cvV] at h
    cases hx : φ x with
    | none => rw [hx] at h; cases h
    | some l =>
      rw [hx] at h
      simp only at h
      split at h
      · cases h; rfl
      · cases h
  | m x =>
    simp only [cvV] at h
    cases hx : φ x with
    | none => rw [hx] at h; cases h
    | some l => rw [hx] at h; cases h; rfl
  | i t x o =>
    simp only [cvV] at h
    cases hx : ptrV φ x o with
    | none => rw [hx] at h; cases h
    | some l => rw [hx] at h; cases h; rfl
  | f f cs =>
    simp only [cvV] at h
    cases hx : ptrsV φ cs with
    | none => rw [hx] at h; cases h
    | some l => rw [hx] at h; cases h; rfl
  | u k x g n =>
    simp only [cvV] at h
    cases hx : φ x with
    | none => rw [hx] at h; cases h
    | some l => rw [hx] at h; cases h; rfl
end Ev
end Go.Proofs.YtajhndakkaniaaaGreatDoor
/- An evaluator for closed runs: what memory is under names; loads, stores, new blocks. -/
namespace Go.Proofs.YtajhndakkaniaaaGreatDoor
open Go

namespace Ev
/-- may a store put it there? -/
noncomputable def oneC : CV → Bool
  | .k (.agg _) => false
  | .k (.tuple _) => false
  | _ => true
theorem oneC_one {φ : Ren} {c : CV} {v : Value} (h : cvV φ c = some v) (k : oneC c = true) : v.oneCell' = true := by
  refine cvV_one h fun u hu => ?_
  subst hu
  cases u <;> first | rfl | cases k
theorem allC_one {φ : Ren} {l : List CV} {vs : List Value} (h : cvsV φ l = some vs) (k : l.all oneC = true) : ∀ v ∈ vs, v.oneCell' = true := by
  intro v hv
  obtain ⟨i, hi, rfl⟩ := List.mem_iff_getElem.1 hv
  have hl := cvsV_len h
  obtain ⟨u, h1, h2⟩ := cvsV_get h i (l[i]'(by omega)) (List.getElem?_eq_getElem (by omega))
  rw [List.getElem?_eq_getElem hi] at h1
  cases h1
  exact oneC_one h2 (List.all_eq_true.1 k _ (List.getElem_mem _))
noncomputable def fzOk (st : Bool) (fz : Nat × Nat) (n : Nat) : Prop := fz = (0, 0) ∨ (st = true ∧ fz = (n, n + 1))
/-- a key: one cell is a number, more are a struct -/
noncomputable def keyV : List Value → Value
  | [v] => v
  | l => .agg l.toArray
/-- the entries of a map, in the order in which they came -/
noncomputable def mapR (φ : Ren) (clock : Nat) : List (List CV × CV) → List MapEntry → Prop
  | [], [] => True
  | p :: r, e :: es => (∃ ks, cvsV φ p.1 = some ks ∧ e.key = keyV ks) ∧ cvV φ p.2 = some e.val ∧ e.born < clock ∧ (∀ e' ∈ es, e.born < e'.born) ∧ mapR φ clock r es
  | [], _ :: _ => False
  | _ :: _, [] => False
theorem mapR.le {φ φ' : Ren} {clock : Nat} (k : Le φ φ') : ∀ {l : List (List CV × CV)} {es : List MapEntry}, mapR φ clock l es → mapR φ' clock l es
  | [], [], _ => trivial
  | _ :: _, _ :: _, ⟨⟨ks, h1, h2⟩, h3, h4, h5, h6⟩ => ⟨⟨ks, k.cvs h1, h2⟩, k.cv h3, h4, h5, mapR.le k h6⟩
  | [], _ :: _, h => h.elim
  | _ :: _, [], h => h.elim
theorem mapR.len {φ : Ren} {clock : Nat} : ∀ {l : List (List CV × CV)} {es : List MapEntry}, mapR φ clock l es → es.length = l.length
  | [], [], _ => rfl
  | _ :: _, _ :: _, ⟨_, _, _, _, h⟩ => by rw [List.length_cons, List.length_cons, mapR.len h]
  | [], _ :: _, h => h.elim
  | _ :: _, [], h => h.elim
/-- one more entry -/
theorem mapR.add {φ : Ren} {clock : Nat} {k : List CV} {c : CV} {ks : List Value} {v : Value} (hk : cvsV φ k = some ks) (hc : cvV φ c = some v) : ∀ {l : List (List CV × CV)} {es : List MapEntry}, mapR φ clock l es → mapR φ (clock + 1) (l ++ [(k, c)]) (es ++ [⟨keyV ks, v, clock⟩])
  | [], [], _ => ⟨⟨ks, hk, rfl⟩, hc, Nat.lt_succ_self _, fun _ h => (by cases h), trivial⟩
  | _ :: _, e :: es, ⟨h1, h3, h4, h5, h6⟩ => ⟨h1, h3, Nat.lt_succ_of_lt h4, fun e' he' => by
      rcases List.mem_append.1 he' with h | h
      · exact h5 e' h
      · cases List.mem_singleton.1 h
        exact h4, mapR.add hk hc h6⟩
  | [], _ :: _, h => h.elim
  | _ :: _, [], h => h.elim
theorem mem_of_eraseIdx {α : Type} {x : α} : ∀ {l : List α} {i : Nat}, x ∈ l.eraseIdx i → x ∈ l
  | [], _, h => by simp at h
  | a :: r, 0, h => List.mem_cons_of_mem _ h
  | a :: r, i + 1, h => by
    rw [List.eraseIdx_cons_succ] at h
    rcases List.mem_cons.1 h with h | h
    · exact h ▸ List.mem_cons_self
    · exact List.mem_cons_of_mem _ (mem_of_eraseIdx h)
/-- one entry less -/
theorem mapR.del {φ : Ren} {clock : Nat} : ∀ {l : List (List CV × CV)} {es : List MapEntry} (i : Nat), mapR φ clock l es → mapR φ clock (l.eraseIdx i) (es.eraseIdx i)
  | [], [], _, _ => trivial
  | _ :: _, _ :: _, 0, ⟨_, _, _, _, h6⟩ => h6
  | _ :: _, _ :: _, i + 1, ⟨h1, h3, h4, h5, h6⟩ => ⟨h1, h3, h4, fun e' he' => h5 e' (mem_of_eraseIdx he'), mapR.del i h6⟩
  | [], _ :: _, _, h => h.elim
  | _ :: _, [], _, h => h.elim
noncomputable def objR (P : Program) (φ : Ren) (l : Loc) : AO → Obj → Prop
  | .cells T st cs, o => ∃ (c : Array Value) (fz : Nat × Nat) (i : TypeInfo), o = .cells c T fz ∧ P.info? T = some i ∧ l.s + l.c * i.size ≤ c.size ∧ (cs.length ≤ l.c * i.size ∧ l.c ≤ 9223372036854775807) ∧ fzOk st fz c.size ∧ ∀ (j : Nat) (q : CV), cs[j]? = some q → ∃ v, c[l.s + j]? = some v ∧ cvV φ q = some v
  | .map l, o => ∃ es clock, o = .map es clock ∧ mapR φ clock l es.toList
  | .sym lo hi, _ => lo ≤ l.c ∧ l.c ≤ hi
theorem objR.le {P : Program} {φ φ' : Ren} {l : Loc} {a : AO} {o : Obj} (h : objR P φ l a o) (k : Le φ φ') : objR P φ' l a o := by
  cases a with
  | cells T st cs =>
    obtain ⟨c, fz, i, h1, h2, h3, h4, h5, h6⟩ := h
    exact ⟨c, fz, i, h1, h2, h3, h4, h5, fun j q hq => by
      obtain ⟨v, k1, k2⟩ := h6 j q hq
      exact ⟨v, k1, k.cv k2⟩⟩
  | map m =>
    obtain ⟨es, clock, h1, h2⟩ := h
    exact ⟨es, clock, h1, h2.le k⟩
  | sym lo hi => exact h
structure SR (P : Program) (B : Nat) (φ : Ren) (H : Hp) (w : World) : Prop where
  live : ∀ x o, H.t.get x = some o → ∃ l obj, φ x = some l ∧ w.heap[l.b]? = some obj ∧ objR P φ l o obj ∧ B ≤ l.b
  inj : ∀ x y o q l k, H.t.get x = some o → H.t.get y = some q → φ x = some l → φ y = some k → l.b = k.b → x = y
  fresh : ∀ x l, φ x = some l → x.num < H.nx.num
structure Ext (P : Program) (B : Nat) (φ : Ren) (H : Hp) (w : World) (φ' : Ren) (H' : Hp) (w' : World) : Prop where
  le : Le φ φ'
  sr : SR P B φ' H' w'
  size : w.heap.size ≤ w'.heap.size
  frame : ∀ b, b < w.heap.size → (∀ x o l, H.t.get x = some o → φ x = some l → l.b ≠ b) → w'.heap[b]? = w.heap[b]?
  own : ∀ x o l, H'.t.get x = some o → φ' x = some l → (∃ y q k, H.t.get y = some q ∧ φ y = some k ∧ k.b = l.b) ∨ w.heap.size ≤ l.b
  os : w'.os = w.os
  tape : w'.tape = w.tape
  output : w'.output = w.output
  nx : H.nx.num ≤ H'.nx.num
section
variable {P : Program} {B : Nat} {φ φ' φ'' : Ren} {H H' H'' : Hp} {w w' w'' : World}
theorem SR.lt (h : SR P B φ H w) {x : Bn} {o : AO} {l : Loc} (hx : H.t.get x = some o) (hl : φ x = some l) : l.b < w.heap.size := by
  obtain ⟨l', obj, h1, h2, _⟩ := h.live x o hx
  rw [hl] at h1
  cases h1
  exact (Array.getElem?_eq_some_iff.1 h2).1
theorem Ext.refl (h : SR P B φ H w) : Ext P B φ H w φ H w :=
  ⟨Le.refl _, h, Nat.le_refl _, fun _ _ _ => rfl, fun x o l hx hl => .inl ⟨x, o, l, hx, hl, rfl⟩, rfl, rfl, rfl, Nat.le_refl _⟩
theorem Ext.trans (h : Ext P B φ H w φ' H' w') (k : Ext P B φ' H' w' φ'' H'' w'') : Ext P B φ H w φ'' H'' w'' := by
  refine ⟨h.le.trans k.le, k.sr, Nat.le_trans h.size k.size, fun b hb hn => ?_, fun x o l hx hl => ?_, k.os.trans h.os, k.tape.trans h.tape, k.output.trans h.output, Nat.le_trans h.nx k.nx⟩
  · rw [k.frame b (Nat.lt_of_lt_of_le hb h.size) fun x o l hx hl e => ?_, h.frame b hb hn]
    rcases h.own x o l hx hl with ⟨y, q, m, h1, h2, h3⟩ | h1
    · exact hn y q m h1 h2 (h3.trans e)
    · omega
  · rcases k.own x o l hx hl with ⟨y, q, m, h1, h2, h3⟩ | h1
    · rcases h.own y q m h1 h2 with ⟨y', q', m', k1, k2, k3⟩ | k1
      · exact .inl ⟨y', q', m', k1, k2, k3.trans h3⟩
      · exact .inr (by omega)
    · exact .inr (Nat.le_trans h.size h1)
/-- an answer of the tape -/
theorem SR.drew (h : SR P B φ H w) : SR P B φ H { w with drawn := w.drawn + 1 } := ⟨h.live, h.inj, h.fresh⟩
theorem Ext.drew (h : SR P B φ H w) : Ext P B φ H w φ H { w with drawn := w.drawn + 1 } :=
  ⟨Le.refl _, h.drew, Nat.le_refl _, fun _ _ _ => rfl, fun x o l hx hl => .inl ⟨x, o, l, hx, hl, rfl⟩, rfl, rfl, rfl, Nat.le_refl _⟩
noncomputable def Hp.cells (H : Hp) (x : Bn) : Option (TypeId × Bool × List CV) := match H.t.get x with
  | some (.cells T st l) => some (T, st, l)
  | _ => none
theorem Hp.cells_get {x : Bn} {T : TypeId} {st : Bool} {l : List CV} (h : H.cells x = some (T, st, l)) : H.t.get x = some (.cells T st l) := by
  unfold Hp.cells at h
  split at h
  · rename_i e
    cases h
    exact e
  · cases h
/-- what a block holds -/
theorem SR.block (h : SR P B φ H w) {x : Bn} {T : TypeId} {st : Bool} {cs : List CV} (hx : H.cells x = some (T, st, cs)) :
    ∃ (l : Loc) (c : Array Value) (fz : Nat × Nat) (i : TypeInfo), φ x = some l ∧ w.heap[l.b]? = some (.cells c T fz) ∧ P.info? T = some i ∧ l.s + l.c * i.size ≤ c.size ∧ (cs.length ≤ l.c * i.size ∧ l.c ≤ 9223372036854775807) ∧ fzOk st fz c.size ∧ (∀ (j : Nat) (q : CV), cs[j]? = some q → ∃ v, c[l.s + j]? = some v ∧ cvV φ q = some v) ∧ B ≤ l.b := by
  obtain ⟨l, obj, h1, h2, ⟨c, fz, i, rfl, h3⟩, h4⟩ := h.live x _ (Hp.cells_get hx)
  exact ⟨l, c, fz, i, h1, h2, h3.1, h3.2.1, h3.2.2.1, h3.2.2.2.1, h3.2.2.2.2, h4⟩
theorem cell_of {b j : Nat} {c : Array Value} {T : TypeId} {fz : Nat × Nat} (h : w.heap[b]? = some (.cells c T fz)) : w.cell? ⟨b, j, none⟩ = c[j]? := by
  simp [World.cell?, h]
theorem frozen_of {b j : Nat} {c : Array Value} {T : TypeId} {fz : Nat × Nat} {st : Bool} (h : w.heap[b]? = some (.cells c T fz)) (hf : fzOk st fz c.size) (hj : j < c.size) : w.frozen? ⟨b, j, none⟩ = false := by
  rcases hf with rfl | ⟨_, rfl⟩
  · simp [World.frozen?, h]
  · simp [World.frozen?, h]
    omega
noncomputable def dropC (n : Nat) : List CV → List CV :=
  Nat.rec (motive := fun _ => List CV → List CV) (fun l => l) (fun _ ih l => List.rec (motive := fun _ => List CV) [] (fun _ r _ => ih r) l) n
noncomputable def consC (a : CV) (o : Option (List CV)) : Option (List CV) := Option.rec (motive := fun _ => Option (List CV)) none (fun l => some (a :: l)) o
noncomputable def takeC (n : Nat) : List CV → Option (List CV) :=
  Nat.rec (motive := fun _ => List CV → Option (List CV)) (fun _ => some []) (fun _ ih l => List.rec (motive := fun _ => Option (List CV)) none (fun a r _ => consC a (ih r)) l) n
theorem dropC_eq : ∀ (n : Nat) (l : List CV), dropC n l = l.drop n
  | 0, _ => rfl
  | _ + 1, [] => rfl
  | n + 1, _ :: r => dropC_eq n r
theorem takeC_ok : ∀ {n : Nat} {l r : List CV}, takeC n l = some r → r.length = n ∧ ∀ j, j < n → r[j]? = l[j]?
  | 0, _, r, h => by
    have : some ([] : List CV) = some r := h
    cases this
    exact ⟨rfl, fun j hj => by omega⟩
  | n + 1, [], r, h => by
    have : (none : Option (List CV)) = some r := h
    cases this
  | n + 1, a :: l, r, h => by
    have h : consC a (takeC n l) = some r := h
    cases e : takeC n l with
    | none =>
      rw [e] at h
      have : (none : Option (List CV)) = some r := h
      cases this
    | some m =>
      rw [e] at h
      have : some (a :: m) = some r := h
      cases this
      obtain ⟨h1, h2⟩ := takeC_ok e
      refine ⟨by rw [List.length_cons, h1], fun j hj => ?_⟩
      cases j with
      | zero => rfl
      | succ j => exact h2 j (by omega)
/-- the cells of a row -/
noncomputable def ldN (l : List CV) (o n : Nat) : Option (List CV) := takeC n (dropC o l)
theorem ldN_get {l r : List CV} {o n : Nat} (h : ldN l o n = some r) : r.length = n ∧ ∀ j, j < n → r[j]? = l[o + j]? := by
  obtain ⟨h1, h2⟩ := takeC_ok h
  refine ⟨h1, fun j hj => ?_⟩
  rw [h2 j hj, dropC_eq, List.getElem?_drop]
theorem SR.row (h : SR P B φ H w) {x : Bn} {T : TypeId} {st : Bool} {cs r : List CV} {o n : Nat} (hx : H.cells x = some (T, st, cs)) (hr : ldN cs o n = some r) :
    ∃ l vs, φ x = some l ∧ cvsV φ r = some vs ∧ vs.length = n ∧ ∀ (j : Nat) (v : Value), vs[j]? = some v → w.cell? ⟨l.b, l.s + o + j, none⟩ = some v := by
  obtain ⟨l, c, fz, i, h1, h2, _, _, _, _, h3, _⟩ := h.block hx
  obtain ⟨k1, k2⟩ := ldN_get hr
  have key : ∀ (j : Nat) (q : CV), r[j]? = some q → ∃ v, c[l.s + (o + j)]? = some v ∧ cvV φ q = some v := fun j q hq => by
    have hj : j < n := by
      have := (List.getElem?_eq_some_iff.1 hq).1
      omega
    exact h3 (o + j) q (by rw [← k2 j hj]; exact hq)
  obtain ⟨vs, hvs⟩ := cvsV_ex (φ := φ) (l := r) fun j q hq => by
    obtain ⟨v, _, h5⟩ := key j q hq
    exact ⟨v, h5⟩
  refine ⟨l, vs, h1, hvs, by rw [cvsV_len hvs, k1], fun j v hv => ?_⟩
  have hj : j < r.length := by
    have := (List.getElem?_eq_some_iff.1 hv).1
    rw [cvsV_len hvs] at this
    exact this
  obtain ⟨v', h5, h6⟩ := key j r[j] (List.getElem?_eq_getElem hj)
  obtain ⟨v'', h7, h8⟩ := cvsV_get hvs j r[j] (List.getElem?_eq_getElem hj)
  rw [h6] at h8
  cases h8
  rw [hv] at h7
  cases h7
  rw [cell_of h2, Nat.add_assoc, h5]
/-- a new block -/
noncomputable def Hp.new (H : Hp) (a : AO) : Hp := ⟨H.t.upd (some a) H.nx, H.nx.succ⟩
noncomputable def Hp.set (H : Hp) (x : Bn) (a : AO) : Hp := ⟨H.t.upd (some a) x, H.nx⟩
noncomputable def Hp.kill (H : Hp) (x : Bn) : Hp := ⟨H.t.upd none x, H.nx⟩
noncomputable def name (φ : Ren) (x : Bn) (l : Loc) : Ren := fun y => if Bn.beq y x then some l else φ y
theorem name_same (φ : Ren) (x : Bn) (l : Loc) : name φ x l x = some l := by
  unfold name
  rw [Bn.beq_self]
  rfl
theorem name_other (φ : Ren) {x y : Bn} (l : Loc) (h : y ≠ x) : name φ x l y = φ y := by
  unfold name
  cases e : Bn.beq y x with
  | true => exact absurd (Bn.beq_eq e) h
  | false => rfl
theorem SR.none (h : SR P B φ H w) : φ H.nx = none := by
  cases e : φ H.nx with
  | none => rfl
  | some l => exact absurd (h.fresh _ _ e) (Nat.lt_irrefl _)
theorem SR.le_name (h : SR P B φ H w) (l : Loc) : Le φ (name φ H.nx l) := fun x k hk => by
  by_cases e : x = H.nx
  · rw [e, h.none] at hk
    cases hk
  · rw [name_other _ _ e]
    exact hk
theorem heap_push (w : World) (o : Obj) (b : Nat) : (w.alloc o).heap[b]? = if b = w.heap.size then some o else w.heap[b]? := by
  show (w.heap.push o)[b]? = _
  rw [Array.getElem?_push]
theorem SR.new (h : SR P B φ H w) {a : AO} {o : Obj} {l : Loc} (hl : l.b = w.heap.size) (ho : objR P (name φ H.nx l) l a o) (hB : B ≤ w.heap.size) :
    Ext P B φ H w (name φ H.nx l) (H.new a) (w.alloc o) := by
  have hle := h.le_name l
  have old : ∀ x o', x ≠ H.nx → (H.new a).t.get x = some o' → H.t.get x = some o' := fun x o' hne hx => by
    rw [← hx]
    exact (Tr.get_other _ _ _ _ hne).symm
  refine ⟨hle, ⟨fun x o' hx => ?_, fun x y o' q l' k hx hy hl' hk e => ?_, fun x k hk => ?_⟩, ?_, fun b hb _ => ?_, fun x o' k hx hk => ?_, rfl, rfl, rfl, ?_⟩
  · by_cases e : x = H.nx
    · subst e
      have : some a = some o' := (Tr.get_upd _ _ _).symm.trans hx
      cases this
      exact ⟨l, o, name_same _ _ _, by rw [heap_push, hl, if_pos rfl], ho, by rw [hl]; exact hB⟩
    · obtain ⟨k, obj, h1, h2, h3, h4⟩ := h.live x o' (old x o' e hx)
      refine ⟨k, obj, hle _ _ h1, ?_, h3.le hle, h4⟩
      rw [heap_push, if_neg, h2]
      have := h.lt (old x o' e hx) h1
      omega
  · by_cases e1 : x = H.nx
    · by_cases e2 : y = H.nx
      · rw [e1, e2]
      · rw [name_other _ _ e2] at hk
        have := h.lt (old y q e2 hy) hk
        rw [e1, name_same] at hl'
        cases hl'
        omega
    · by_cases e2 : y = H.nx
      · rw [name_other _ _ e1] at hl'
        have := h.lt (old x o' e1 hx) hl'
        rw [e2, name_same] at hk
        cases hk
        omega
      · rw [name_other _ _ e1] at hl'
        rw [name_other _ _ e2] at hk
        exact h.inj x y o' q l' k (old x o' e1 hx) (old y q e2 hy) hl' hk e
  · show x.num < H.nx.succ.num
    rw [Bn.num_succ]
    by_cases e : x = H.nx
    · rw [e]; omega
    · rw [name_other _ _ e] at hk
      have := h.fresh x k hk
      omega
  · show w.heap.size ≤ (w.heap.push o).size
    rw [Array.size_push]
    omega
  · rw [heap_push, if_neg (by omega)]
  · by_cases e : x = H.nx
    · rw [e, name_same] at hk
      cases hk
      exact .inr (by omega)
    · rw [name_other _ _ e] at hk
      exact .inl ⟨x, o', k, old x o' e hx, hk, rfl⟩
  · show H.nx.num ≤ H.nx.succ.num
    rw [Bn.num_succ]
    omega
/-- a map -/
noncomputable def Hp.mp (H : Hp) (x : Bn) : Option (List (List CV × CV)) := match H.t.get x with
  | some (.map l) => some l
  | _ => none
theorem Hp.mp_get {x : Bn} {l : List (List CV × CV)} (h : H.mp x = some l) : H.t.get x = some (.map l) := by
  unfold Hp.mp at h
  split at h
  · rename_i e
    cases h
    exact e
  · cases h
theorem SR.map (h : SR P B φ H w) {x : Bn} {l : List (List CV × CV)} (hx : H.mp x = some l) : ∃ q es clock, φ x = some q ∧ w.heap[q.b]? = some (.map es clock) ∧ mapR φ clock l es.toList ∧ B ≤ q.b := by
  obtain ⟨q, obj, h1, h2, ⟨es, clock, h3, h4⟩, h5⟩ := h.live x _ (Hp.mp_get hx)
  exact ⟨q, es, clock, h1, by rw [h2, h3], h4, h5⟩
/-- a block is another one -/
theorem SR.put (h : SR P B φ H w) {x : Bn} {o a : AO} {l : Loc} {obj : Obj} {w' : World} (hx : H.t.get x = some o) (hl : φ x = some l) (hh : w'.heap[l.b]? = some obj) (ho : ∀ b, b ≠ l.b → w'.heap[b]? = w.heap[b]?) (hsz : w'.heap.size = w.heap.size) (hos : w'.os = w.os ∧ w'.tape = w.tape ∧ w'.output = w.output) (hr : objR P φ l a obj) :
    Ext P B φ H w φ (H.set x a) w' := by
  have old : ∀ y q, y ≠ x → (H.set x a).t.get y = some q → H.t.get y = some q := fun y q hne hy => by
    rw [← hy]
    exact (Tr.get_other _ _ _ _ hne).symm
  have new : ∀ q, (H.set x a).t.get x = some q → q = a := fun q hq => by
    have : some a = some q := (Tr.get_upd _ _ _).symm.trans hq
    cases this
    rfl
  have any : ∀ y q, (H.set x a).t.get y = some q → ∃ q', H.t.get y = some q' := fun y q hy => by
    by_cases e : y = x
    · rw [e]; exact ⟨_, hx⟩
    · exact ⟨q, old y q e hy⟩
  obtain ⟨l', _, k1, _, _, k4⟩ := h.live x o hx
  rw [hl] at k1
  cases k1
  refine ⟨Le.refl _, ⟨fun y q hy => ?_, fun y y' q q' k k' hy hy' hk hk' e => ?_, h.fresh⟩, Nat.le_of_eq hsz.symm, fun b _ hn => ho b fun e => hn x _ l hx hl e.symm, fun y q k hy hk => ?_, hos.1, hos.2.1, hos.2.2, Nat.le_refl _⟩
  · by_cases e : y = x
    · subst e
      rw [new q hy]
      exact ⟨l, obj, hl, hh, hr, k4⟩
    · obtain ⟨k, obj', n1, n2, n3, n4⟩ := h.live y q (old y q e hy)
      refine ⟨k, obj', n1, ?_, n3, n4⟩
      rw [ho _ fun e2 => e (h.inj y x _ _ k l (old y q e hy) hx n1 hl e2)]
      exact n2
  · obtain ⟨p, hp⟩ := any y q hy
    obtain ⟨p', hp'⟩ := any y' q' hy'
    exact h.inj y y' p p' k k' hp hp' hk hk' e
  · obtain ⟨p, hp⟩ := any y q hy
    exact .inl ⟨y, p, k, hp, hk, rfl⟩
/-- a map is another one -/
theorem SR.mapset (h : SR P B φ H w) {x : Bn} {q : Loc} {l l' : List (List CV × CV)} {es' : Array MapEntry} {clock' : Nat} (hx : H.mp x = some l) (hl : φ x = some q) (hr : mapR φ clock' l' es'.toList) :
    Ext P B φ H w φ (H.set x (.map l')) { w with heap := w.heap.setIfInBounds q.b (.map es' clock') } := by
  have hlt := h.lt (Hp.mp_get hx) hl
  refine h.put (a := .map l') (obj := .map es' clock') (Hp.mp_get hx) hl ?_ (fun b hb => ?_) ?_ ⟨rfl, rfl, rfl⟩ ⟨es', clock', rfl, hr⟩
  · simp [hlt]
  · simp [Ne.symm hb]
  · simp
/-- the bounds of a number that is not known -/
noncomputable def symB (H : Hp) (x : Bn) : Option (Nat × Nat) := match H.t.get x with
  | some (.sym lo hi) => some (lo, hi)
  | _ => none
theorem SR.sym (h : SR P B φ H w) {x : Bn} {lo hi : Nat} (hx : symB H x = some (lo, hi)) : ∃ l, φ x = some l ∧ lo ≤ l.c ∧ l.c ≤ hi := by
  unfold symB at hx
  split at hx
  · rename_i e
    cases hx
    obtain ⟨l, _, h1, _, h2, _⟩ := h.live x _ e
    exact ⟨l, h1, h2⟩
  · cases hx
end
end Ev
end Go.Proofs.YtajhndakkaniaaaGreatDoor
/- An evaluator for closed runs: stores, and appends that may grow. -/
namespace Go.Proofs.YtajhndakkaniaaaGreatDoor
open Go

namespace Ev
noncomputable def hasN (n : Nat) : List CV → Bool :=
  Nat.rec (motive := fun _ => List CV → Bool) (fun _ => true) (fun _ ih l => List.rec (motive := fun _ => Bool) false (fun _ r _ => ih r) l) n
noncomputable def ovr (v : List CV) : List CV → List CV :=
  List.rec (motive := fun _ => List CV → List CV) (fun l => l) (fun a _ ih l => List.rec (motive := fun _ => List CV) [] (fun _ r _ => a :: ih r) l) v
noncomputable def putC (v : List CV) (o : Nat) : List CV → List CV :=
  Nat.rec (motive := fun _ => List CV → List CV) (fun l => ovr v l) (fun _ ih l => List.rec (motive := fun _ => List CV) [] (fun a r _ => a :: ih r) l) o
theorem hasN_le : ∀ {n : Nat} {l : List CV}, hasN n l = true → n ≤ l.length
  | 0, _, _ => Nat.zero_le _
  | n + 1, [], h => by
    have : false = true := h
    cases this
  | n + 1, _ :: r, h => by
    have := hasN_le (n := n) (l := r) h
    rw [List.length_cons]
    omega
theorem ovr_get : ∀ {v l : List CV}, v.length ≤ l.length → (ovr v l).length = l.length ∧ ∀ j, (ovr v l)[j]? = if j < v.length then v[j]? else l[j]?
  | [], l, _ => ⟨rfl, fun j => by rw [if_neg (by simp)]; rfl⟩
  | a :: v, [], h => by simp at h
  | a :: v, b :: l, h => by
    obtain ⟨h1, h2⟩ := ovr_get (v := v) (l := l) (by simpa using h)
    refine ⟨by show (a :: ovr v l).length = _; rw [List.length_cons, List.length_cons, h1], fun j => ?_⟩
    show (a :: ovr v l)[j]? = _
    cases j with
    | zero => rw [if_pos (by simp)]; rfl
    | succ j =>
      show (ovr v l)[j]? = _
      rw [h2 j, List.length_cons]
      by_cases e : j < v.length
      · rw [if_pos e, if_pos (by omega)]; rfl
      · rw [if_neg e, if_neg (by omega)]; rfl
theorem putC_get {v : List CV} : ∀ {o : Nat} {l : List CV}, o + v.length ≤ l.length → (putC v o l).length = l.length ∧ ∀ j, (putC v o l)[j]? = if o ≤ j ∧ j < o + v.length then v[j - o]? else l[j]?
  | 0, l, h => by
    obtain ⟨h1, h2⟩ := ovr_get (v := v) (l := l) (by omega)
    refine ⟨h1, fun j => ?_⟩
    show (ovr v l)[j]? = _
    rw [h2 j]
    by_cases e : j < v.length
    · rw [if_pos e, if_pos ⟨by omega, by omega⟩, Nat.sub_zero]
    · rw [if_neg e, if_neg (by omega)]
  | o + 1, [], h => by simp at h
  | o + 1, b :: l, h => by
    obtain ⟨h1, h2⟩ := putC_get (v := v) (o := o) (l := l) (by rw [List.length_cons] at h; omega)
    refine ⟨by show (b :: putC v o l).length = _; rw [List.length_cons, List.length_cons, h1], fun j => ?_⟩
    show (b :: putC v o l)[j]? = _
    cases j with
    | zero => rw [if_neg (by omega)]; rfl
    | succ j =>
      show (putC v o l)[j]? = _
      rw [h2 j]
      by_cases e : o ≤ j ∧ j < o + v.length
      · rw [if_pos e, if_pos (by omega), show j + 1 - (o + 1) = j - o by omega]
      · rw [if_neg e, if_neg (by omega)]; rfl
noncomputable def stN (l : List CV) (o : Nat) (v : List CV) : Option (List CV) := Bool.rec (motive := fun _ => Option (List CV)) none (some (putC v o l)) (hasN (o + v.length) l)
theorem stN_get {l v l' : List CV} {o : Nat} (h : stN l o v = some l') : o + v.length ≤ l.length ∧ l'.length = l.length ∧ ∀ j, l'[j]? = if o ≤ j ∧ j < o + v.length then v[j - o]? else l[j]? := by
  unfold stN at h
  cases e : hasN (o + v.length) l with
  | false =>
    rw [e] at h
    cases h
  | true =>
    rw [e] at h
    cases h
    have hl := hasN_le e
    exact ⟨hl, putC_get hl⟩
section
variable {P : Program} {B : Nat} {φ : Ren} {H : Hp} {w : World}
theorem setCells_heap (b : Nat) : ∀ (us : List Value) (o : Nat) (w : World) (c : Array Value) (T : TypeId) (fz : Nat × Nat), w.heap[b]? = some (.cells c T fz) → o + us.length ≤ c.size →
    ∃ c', (w.setCells b o us).heap[b]? = some (.cells c' T fz) ∧ c'.size = c.size ∧ ∀ j, c'[j]? = if o ≤ j ∧ j < o + us.length then us[j - o]? else c[j]?
  | [], o, w, c, T, fz, h, _ => ⟨c, h, rfl, fun j => by rw [if_neg (by simp)]⟩
  | u :: r, o, w, c, T, fz, h, hb => by
    rw [List.length_cons] at hb
    have h1 : (w.setCell ⟨b, o, none⟩ u).heap[b]? = some (.cells (c.setIfInBounds o u) T fz) := by
      simp [World.setCell, Array.getElem?_modify, h]
    obtain ⟨c', k1, k2, k3⟩ := setCells_heap b r (o + 1) _ _ T fz h1 (by rw [Array.size_setIfInBounds]; omega)
    refine ⟨c', k1, by rw [k2, Array.size_setIfInBounds], fun j => ?_⟩
    rw [k3]
    by_cases e1 : o + 1 ≤ j ∧ j < o + 1 + r.length
    · rw [if_pos e1, if_pos ⟨by omega, by rw [List.length_cons]; omega⟩, show j - o = (j - (o + 1)) + 1 by omega]
      rfl
    · rw [if_neg e1, Array.getElem?_setIfInBounds]
      by_cases e2 : o = j
      · subst e2
        rw [if_pos rfl, if_pos (by omega), if_pos ⟨by omega, by rw [List.length_cons]; omega⟩, Nat.sub_self]
        rfl
      · rw [if_neg e2, if_neg (by rw [List.length_cons]; omega)]
theorem setCells_other (b : Nat) : ∀ (us : List Value) (o : Nat) (w : World) (b' : Nat), b' ≠ b → (w.setCells b o us).heap[b']? = w.heap[b']?
  | [], _, _, _, _ => rfl
  | u :: r, o, w, b', h => by
    show ((w.setCell ⟨b, o, none⟩ u).setCells b (o + 1) r).heap[b']? = _
    rw [setCells_other b r (o + 1) _ b' h]
    exact heap_setCell_other w _ b' u h
theorem setCells_size (b : Nat) : ∀ (us : List Value) (o : Nat) (w : World), (w.setCells b o us).heap.size = w.heap.size
  | [], _, _ => rfl
  | u :: r, o, w => by
    show ((w.setCell ⟨b, o, none⟩ u).setCells b (o + 1) r).heap.size = _
    rw [setCells_size b r (o + 1)]
    simp [World.setCell]
theorem setCells_rest (b : Nat) : ∀ (us : List Value) (o : Nat) (w : World), (w.setCells b o us).os = w.os ∧ (w.setCells b o us).tape = w.tape ∧ (w.setCells b o us).output = w.output
  | [], _, _ => ⟨rfl, rfl, rfl⟩
  | u :: r, o, w => setCells_rest b r (o + 1) (w.setCell ⟨b, o, none⟩ u)
/-- cells of a block are others -/
theorem SR.store (h : SR P B φ H w) {x : Bn} {T : TypeId} {st : Bool} {cs v cs' : List CV} {o : Nat} {l : Loc} {us : List Value} (hx : H.cells x = some (T, st, cs)) (hs : stN cs o v = some cs') (hl : φ x = some l) (hv : cvsV φ v = some us) :
    Ext P B φ H w φ (H.set x (.cells T st cs')) (w.setCells l.b (l.s + o) us) := by
  obtain ⟨l', c, fz, i, h1, h2, h3, h4, h5, h6, h7, h8⟩ := h.block hx
  rw [hl] at h1
  cases h1
  obtain ⟨k1, k2, k3⟩ := stN_get hs
  have hul := cvsV_len hv
  obtain ⟨c', m1, m2, m3⟩ := setCells_heap l.b us (l.s + o) w c T fz h2 (by omega)
  have hget := Hp.cells_get hx
  have old : ∀ y q, y ≠ x → (H.set x (.cells T st cs')).t.get y = some q → H.t.get y = some q := fun y q hne hy => by
    rw [← hy]
    exact (Tr.get_other _ _ _ _ hne).symm
  have new : ∀ q, (H.set x (.cells T st cs')).t.get x = some q → q = .cells T st cs' := fun q hq => by
    have : some (AO.cells T st cs') = some q := (Tr.get_upd _ _ _).symm.trans hq
    cases this
    rfl
  have any : ∀ y q, (H.set x (.cells T st cs')).t.get y = some q → ∃ q', H.t.get y = some q' := fun y q hy => by
    by_cases e : y = x
    · rw [e]; exact ⟨_, hget⟩
    · exact ⟨q, old y q e hy⟩
  obtain ⟨r1, r2, r3⟩ := setCells_rest l.b us (l.s + o) w
  refine ⟨Le.refl _, ⟨fun y q hy => ?_, fun y y' q q' k k' hy hy' hk hk' e => ?_, h.fresh⟩, Nat.le_of_eq (setCells_size _ _ _ _).symm, fun b _ hn => ?_, fun y q k hy hk => ?_, r1, r2, r3, Nat.le_refl _⟩
  · by_cases e : y = x
    · subst e
      rw [new q hy]
      refine ⟨l, _, hl, m1, ⟨c', fz, i, rfl, h3, by omega, by omega, ?_, fun j q hq => ?_⟩, h8⟩
      · rw [m2]; exact h6
      · rw [k3] at hq
        rw [m3]
        by_cases e1 : o ≤ j ∧ j < o + v.length
        · rw [if_pos e1] at hq
          rw [if_pos (by omega)]
          obtain ⟨u, n1, n2⟩ := cvsV_get hv _ q hq
          exact ⟨u, by rw [show l.s + j - (l.s + o) = j - o by omega]; exact n1, n2⟩
        · rw [if_neg e1] at hq
          rw [if_neg (by omega)]
          exact h7 j q hq
    · obtain ⟨k, obj, n1, n2, n3, n4⟩ := h.live y q (old y q e hy)
      refine ⟨k, obj, n1, ?_, n3, n4⟩
      rw [setCells_other _ _ _ _ _ fun e2 => e (h.inj y x _ _ k l (old y q e hy) hget n1 hl e2)]
      exact n2
  · obtain ⟨p, hp⟩ := any y q hy
    obtain ⟨p', hp'⟩ := any y' q' hy'
    exact h.inj y y' p p' k k' hp hp' hk hk' e
  · exact setCells_other _ _ _ _ _ fun e => hn x _ l hget hl e.symm
  · obtain ⟨p, hp⟩ := any y q hy
    exact .inl ⟨y, p, k, hp, hk, rfl⟩
/-- a block has another name: the rest of its row, from a place on, and what was put behind it -/
theorem SR.move (h : SR P B φ H w) {x : Bn} {T : TypeId} {st : Bool} {cs cs' : List CV} {l l' : Loc} {w' : World} {c' : Array Value} {fz : Nat × Nat} {i : TypeInfo} (hx : H.cells x = some (T, st, cs)) (hl : φ x = some l) (hb : l'.b = l.b)
    (ho : ∀ b, b ≠ l.b → w'.heap[b]? = w.heap[b]?) (hsz : w'.heap.size = w.heap.size) (hos : w'.os = w.os ∧ w'.tape = w.tape ∧ w'.output = w.output) (hc : w'.heap[l.b]? = some (.cells c' T fz)) (hi : P.info? T = some i) (hcap : l'.s + l'.c * i.size ≤ c'.size) (hle : cs'.length ≤ l'.c * i.size ∧ l'.c ≤ 9223372036854775807) (hfz : fzOk st fz c'.size)
    (hcs : ∀ (j : Nat) (q : CV), cs'[j]? = some q → ∃ v, c'[l'.s + j]? = some v ∧ cvV φ q = some v) :
    Ext P B φ H w (name φ H.nx l') ((H.kill x).new (.cells T st cs')) w' := by
  have hget := Hp.cells_get hx
  have hlen := h.le_name l'
  have hxn : x ≠ H.nx := fun e => by rw [e, h.none] at hl; cases hl
  have old : ∀ y q, y ≠ H.nx → ((H.kill x).new (.cells T st cs')).t.get y = some q → H.t.get y = some q ∧ y ≠ x := fun y q hne hy => by
    have h1 : (H.kill x).t.get y = some q := (Tr.get_other _ _ _ _ hne).symm.trans hy
    by_cases e : y = x
    · rw [e] at h1
      have : Option.none = some q := (Tr.get_upd _ _ _).symm.trans h1
      cases this
    · exact ⟨(Tr.get_other _ _ _ _ e).symm.trans h1, e⟩
  have new : ∀ q, ((H.kill x).new (.cells T st cs')).t.get H.nx = some q → q = .cells T st cs' := fun q hq => by
    have : some (AO.cells T st cs') = some q := (Tr.get_upd _ _ _).symm.trans hq
    cases this
    rfl
  refine ⟨hlen, ⟨fun y q hy => ?_, fun y y' q q' k k' hy hy' hk hk' e => ?_, fun y k hk => ?_⟩, Nat.le_of_eq hsz.symm, fun b _ hn => ho b fun e => hn x _ l hget hl e.symm, fun y q k hy hk => ?_, hos.1, hos.2.1, hos.2.2, by show H.nx.num ≤ H.nx.succ.num; rw [Bn.num_succ]; omega⟩
  · by_cases e : y = H.nx
    · subst e
      rw [new q hy]
      obtain ⟨k, _, n1, _, _, n4⟩ := h.live x _ hget
      rw [hl] at n1
      cases n1
      exact ⟨l', _, name_same _ _ _, by rw [hb]; exact hc, ⟨c', fz, i, rfl, hi, hcap, hle, hfz, fun j q hq => by
        obtain ⟨v, m1, m2⟩ := hcs j q hq
        exact ⟨v, m1, hlen.cv m2⟩⟩, by rw [hb]; exact n4⟩
    · obtain ⟨h1, h2⟩ := old y q e hy
      obtain ⟨k, obj, n1, n2, n3, n4⟩ := h.live y q h1
      exact ⟨k, obj, hlen _ _ n1, by rw [ho _ fun e2 => h2 (h.inj y x _ _ k l h1 hget n1 hl e2)]; exact n2, n3.le hlen, n4⟩
  · by_cases e1 : y = H.nx
    · by_cases e2 : y' = H.nx
      · rw [e1, e2]
      · rw [name_other _ _ e2] at hk'
        rw [e1, name_same] at hk
        cases hk
        obtain ⟨h1, h2⟩ := old y' q' e2 hy'
        exact absurd (h.inj y' x _ _ k' l h1 hget hk' hl (by rw [← e, hb])) h2
    · rw [name_other _ _ e1] at hk
      obtain ⟨h1, h2⟩ := old y q e1 hy
      by_cases e2 : y' = H.nx
      · rw [e2, name_same] at hk'
        cases hk'
        exact absurd (h.inj y x _ _ k l h1 hget hk hl (by rw [e, hb])) h2
      · rw [name_other _ _ e2] at hk'
        exact h.inj y y' q q' k k' h1 (old y' q' e2 hy').1 hk hk' e
  · show y.num < H.nx.succ.num
    rw [Bn.num_succ]
    by_cases e : y = H.nx
    · rw [e]; omega
    · rw [name_other _ _ e] at hk
      have := h.fresh y k hk
      omega
  · by_cases e : y = H.nx
    · rw [e, name_same] at hk
      cases hk
      exact .inl ⟨x, _, l, hget, hl, hb.symm⟩
    · rw [name_other _ _ e] at hk
      exact .inl ⟨y, q, k, (old y q e hy).1, hk, rfl⟩
/-- what is not looked at any more -/
theorem SR.kill (h : SR P B φ H w) (x : Bn) : Ext P B φ H w φ (H.kill x) w := by
  have old : ∀ y q, (H.kill x).t.get y = some q → H.t.get y = some q := fun y q hy => by
    by_cases e : y = x
    · rw [e] at hy
      have : Option.none = some q := (Tr.get_upd _ _ _).symm.trans hy
      cases this
    · exact (Tr.get_other _ _ _ _ e).symm.trans hy
  exact ⟨Le.refl _, ⟨fun y q hy => h.live y q (old y q hy), fun y y' q q' k k' hy hy' => h.inj y y' q q' k k' (old y q hy) (old y' q' hy'), h.fresh⟩, Nat.le_refl _, fun _ _ _ => rfl, fun y q k hy hk => .inl ⟨y, q, k, old y q hy, hk, rfl⟩, rfl, rfl, rfl, Nat.le_refl _⟩
end
end Ev
end Go.Proofs.YtajhndakkaniaaaGreatDoor
/- An evaluator for closed runs: operations that only read. -/
namespace Go.Proofs.YtajhndakkaniaaaGreatDoor
open Go

namespace Ev
noncomputable def valCV : Value → Option CV
  | .bool b => some (.k (.bool b))
  | .int k n => some (.k (.int k n))
  | .string s => some (.k (.string s))
  | .pointer none => some (.k (.pointer none))
  | .slice none n c => some (.k (.slice none n c))
  | .map none => some (.k (.map none))
  | .nilFunc => some (.k .nilFunc)
  | .nilIface => some (.k .nilIface)
  | _ => none
noncomputable def valCVs : List Value → Option (List CV)
  | [] => some []
  | v :: r => match valCV v, valCVs r with
    | some c, some l => some (c :: l)
    | _, _ => none
noncomputable def valSV : Value → Option SV
  | .agg cs => match valCVs cs.toList with
    | some l => some (.a l)
    | none => none
  | v => match valCV v with
    | some c => some (.c c)
    | none => none
theorem valCV_ok {φ : Ren} {v : Value} {c : CV} (h : valCV v = some c) : cvV φ c = some v := by
  cases v with
  | pointer a => cases a <;> cases h; rfl
  | slice a n c => cases a <;> cases h; rfl
  | map r => cases r <;> cases h; rfl
  | _ => first | (cases h; rfl) | cases h
theorem valCVs_ok {φ : Ren} : ∀ {vs : List Value} {l : List CV}, valCVs vs = some l → cvsV φ l = some vs
  | [], l, h => by cases h; rfl
  | v :: r, l, h => by
    simp only [valCVs] at h
    cases h1 : valCV v with
    | none => rw [h1] at h; cases h
    | some c =>
      cases h2 : valCVs r with
      | none => rw [h1, h2] at h; cases h
      | some m =>
        rw [h1, h2] at h
        cases h
        exact cvsV_mk (valCV_ok h1) (valCVs_ok h2)
theorem valSV_ok {φ : Ren} {v : Value} {s : SV} (h : valSV v = some s) : svV φ s = some v := by
  unfold valSV at h
  split at h
  · rename_i cs
    cases h1 : valCVs cs.toList with
    | none => rw [h1] at h; cases h
    | some l =>
      rw [h1] at h
      cases h
      simp only [svV, valCVs_ok h1]
  · split at h
    · rename_i h1
      cases h
      exact valCV_ok h1
    · cases h
noncomputable def opd (T : Tm) : Operand → Option TV
  | .tmp t => T.get (key t)
  | .const v => match valSV v with
    | some s => some (.s s)
    | none => none
  | .global _ => none
  | .func f => some (.s (.c (.f f [])))
noncomputable def opds (T : Tm) : List Operand → Option (List TV)
  | [] => some []
  | x :: r => match opd T x, opds T r with
    | some v, some l => some (v :: l)
    | _, _ => none
/-- a frame's slots -/
noncomputable def FR (φ : Ren) (T : Tm) (a : Act) : Prop := ∀ t tv, T.get (key t) = some tv → ∃ v, a.tmps[t]? = some v ∧ tvV φ tv = some v
theorem FR.le {φ φ' : Ren} {T : Tm} {a : Act} (h : FR φ T a) (k : Le φ φ') : FR φ' T a := fun t tv ht => by
  obtain ⟨v, h1, h2⟩ := h t tv ht
  exact ⟨v, h1, k.tv h2⟩
theorem opd_ok {φ : Ren} {T : Tm} {a : Act} (h : FR φ T a) {x : Operand} {tv : TV} (hx : opd T x = some tv) : tvV φ tv = some (a.eval x) := by
  cases x with
  | tmp t =>
    obtain ⟨v, h1, h2⟩ := h t tv hx
    rw [h2]
    simp [Act.eval, h1]
  | const v =>
    simp only [opd] at hx
    cases h1 : valSV v with
    | none => rw [h1] at hx; cases hx
    | some s => rw [h1] at hx; cases hx; exact valSV_ok h1
  | global g => cases hx
  | func f => cases hx; rfl
noncomputable def EvR (φ : Ren) (T : Tm) (ρ : Operand → Value) : Prop := ∀ x tv, opd T x = some tv → tvV φ tv = some (ρ x)
theorem FR.ev {φ : Ren} {T : Tm} {a : Act} (h : FR φ T a) : EvR φ T a.eval := fun _ _ e => opd_ok h e
theorem opds_ok {φ : Ren} {T : Tm} {ρ : Operand → Value} (h : EvR φ T ρ) : ∀ {xs : List Operand} {l : List TV}, opds T xs = some l → tvsV φ l = some (xs.map ρ)
  | [], l, hx => by cases hx; rfl
  | x :: r, l, hx => by
    simp only [opds] at hx
    cases h1 : opd T x with
    | none => rw [h1] at hx; cases hx
    | some v =>
      cases h2 : opds T r with
      | none => rw [h1, h2] at hx; cases hx
      | some m =>
        rw [h1, h2] at hx
        cases hx
        simp only [tvsV, h _ _ h1, opds_ok h h2, List.map_cons]
/-- a number, a Boolean, a string, nil -/
noncomputable def opk (T : Tm) (x : Operand) : Option Value := match opd T x with
  | some (.s (.c (.k v))) => some v
  | _ => none
theorem opk_ok {φ : Ren} {T : Tm} {ρ : Operand → Value} (h : EvR φ T ρ) {x : Operand} {v : Value} (hx : opk T x = some v) : ρ x = v := by
  unfold opk at hx
  split at hx
  · rename_i e
    cases hx
    have := h _ _ e
    simp only [tvV, svV, cvV] at this
    injection this with this
    exact this.symm
  · cases hx
noncomputable def opi (T : Tm) (x : Operand) : Option Int := match opk T x with
  | some (.int _ n) => some n
  | _ => none
theorem opi_ok {φ : Ren} {T : Tm} {ρ : Operand → Value} (h : EvR φ T ρ) {x : Operand} {n : Int} (hx : opi T x = some n) : ∃ k, ρ x = .int k n := by
  unfold opi at hx
  split at hx
  · rename_i k n' e
    cases hx
    exact ⟨k, opk_ok h e⟩
  · cases hx
/-- an address -/
noncomputable def opp (T : Tm) (x : Operand) : Option (Bn × Nat) := match opd T x with
  | some (.s (.c (.p b q))) => some (b, q)
  | _ => none
theorem opp_ok {φ : Ren} {T : Tm} {ρ : Operand → Value} (h : EvR φ T ρ) {x : Operand} {b : Bn} {q : Nat} (hx : opp T x = some (b, q)) : ∃ l, φ b = some l ∧ ρ x = .pointer (some ⟨l.b, l.s + q, none⟩) := by
  unfold opp at hx
  split at hx
  · rename_i e
    cases hx
    have h1 := h _ _ e
    simp only [tvV, svV, cvV, ptrV] at h1
    cases h2 : φ b with
    | none => rw [h2] at h1; cases h1
    | some l => rw [h2] at h1; injection h1 with h1; exact ⟨l, rfl, h1.symm⟩
  · cases hx
/-- a slice -/
noncomputable def ops' (T : Tm) (x : Operand) : Option (Bn × Nat × Nat × Nat × Nat) := match opd T x with
  | some (.s (.c (.s b o d n e))) => some (b, o, d, n, e)
  | _ => none
theorem ops_ok {φ : Ren} {T : Tm} {ρ : Operand → Value} (h : EvR φ T ρ) {x : Operand} {b : Bn} {o d n e : Nat} (hx : ops' T x = some (b, o, d, n, e)) : ∃ l, φ b = some l ∧ n + d ≤ l.c ∧ ρ x = .slice (some ⟨l.b, l.s + (if l.c ≤ d then e else o), none⟩) n (l.c - d) := by
  unfold ops' at hx
  split at hx
  · rename_i e1
    cases hx
    have h1 := h _ _ e1
    simp only [tvV, svV, cvV] at h1
    cases h2 : φ b with
    | none => rw [h2] at h1; cases h1
    | some l =>
      rw [h2] at h1
      simp only at h1
      split at h1
      · rename_i e2
        injection h1 with h1
        exact ⟨l, rfl, e2, h1.symm⟩
      · cases h1
  · cases hx
/-- what an operation yields that only reads: 'some none' where nobody will ask what -/
noncomputable def Yields (P : Program) (B : Nat) (T : Tm) (H : Hp) (o : Oper) (r : Option TV) : Prop :=
  ∀ (φ : Ren) (ρ : Operand → Value) (w : World), EvR φ T ρ → SR P B φ H w → ∃ v, (∀ tv, r = some tv → tvV φ tv = some v) ∧ (execOp ρ o).run P w = .ok (.value v) w
section
variable {P : Program} {B : Nat} {T : Tm} {H : Hp} {o : Oper}
theorem yields_move {x : Operand} (ho : o.op = .move x) : Yields P B T H o (opd T x) := fun φ ρ w h _ => by
  refine ⟨ρ x, fun tv e => h _ _ e, ?_⟩
  simp [execOp, ho]
theorem yields_assign {x : Operand} (ho : o.op = .assign x) : Yields P B T H o (opd T x) := fun φ ρ w h _ => by
  refine ⟨ρ x, fun tv e => h _ _ e, ?_⟩
  simp [execOp, ho]
theorem yields_pick {c x y : Operand} {t : Bool} (ho : o.op = .pick c x y) (hc : opk T c = some (.bool t)) : Yields P B T H o (opd T (if t then x else y)) := fun φ ρ w h _ => by
  refine ⟨ρ (if t then x else y), fun tv e => h _ _ e, ?_⟩
  have := opk_ok h hc
  cases t <;> simp [execOp, ho, this, asBool, go_sem]
theorem yields_nil {x : Operand} {b : Bn} {q : Nat} (ho : o.op = .nilCheck x) (hx : opp T x = some (b, q)) : Yields P B T H o (some (.s (.c (.p b q)))) := fun φ ρ w h _ => by
  obtain ⟨l, h1, h2⟩ := opp_ok h hx
  refine ⟨ρ x, fun tv e => ?_, ?_⟩
  · cases e
    simp only [tvV, svV, cvV, ptrV, h1, h2]
  · simp [execOp, ho, h2, go_sem]
end
end Ev
end Go.Proofs.YtajhndakkaniaaaGreatDoor
/- An evaluator for closed runs: addresses, loads, parts. -/
namespace Go.Proofs.YtajhndakkaniaaaGreatDoor
open Go

namespace Ev
noncomputable def stField (P : Program) (t : TypeId) (f : Nat) : Option Nat := match und P t with
  | some (.struct fs) => match fs[f]? with
    | some fl => match inf P fl.type with
      | some i => if Nat.beq i.size 0 then none else some fl.offset
      | none => none
    | none => none
  | _ => none
/-- of a slice or an array: how many elements (an array), and the size of one -/
noncomputable def stElem (P : Program) (t : TypeId) : Option (Option Nat × Nat) := match und P t with
  | some (.slice e) => match inf P e with
    | some i => some (none, i.size)
    | none => none
  | some (.array n e) => match inf P e with
    | some i => some (some n, i.size)
    | none => none
  | _ => none
/-- of a load: none: one cell -/
noncomputable def stLoad (P : Program) (t : TypeId) : Option (Option Nat) := match und P t with
  | some (.struct _) => match inf P t with
    | some i => some (some i.size)
    | none => none
  | some (.array _ _) => match inf P t with
    | some i => some (some i.size)
    | none => none
  | some _ => some none
  | none => none
noncomputable def natOf : Int → Option Nat
  | .ofNat n => some n
  | .negSucc _ => none
theorem natOf_ok {i : Int} {n : Nat} (h : natOf i = some n) : i = n := by
  cases i with
  | ofNat m => cases h; rfl
  | negSucc m => cases h
section
variable {P : Program} {B : Nat} {T : Tm} {H : Hp} {o : Oper}
theorem addr_add (b s n : Nat) : (⟨b, s, none⟩ : Addr).add n = ⟨b, s + n, none⟩ := by
  unfold Addr.add
  split <;> simp_all
theorem yields_field {t : TypeId} {x : Operand} {f k : Nat} {b : Bn} {q : Nat} (ho : o.op = .fieldAddr t x f) (hs : stField P t f = some k) (hx : opp T x = some (b, q)) : Yields P B T H o (some (.s (.c (.p b (q + k))))) := fun φ ρ w h _ => by
  obtain ⟨l, h1, h2⟩ := opp_ok h hx
  unfold stField at hs
  simp only [inf_eq, und_eq] at hs
  split at hs
  · rename_i fs e1
    split at hs
    · rename_i fl e2
      split at hs
      · rename_i i e3
        split at hs
        · cases hs
        · rename_i e4
          cases hs
          have e5 : i.size ≠ 0 := fun e => e4 (by rw [e]; rfl)
          refine ⟨.pointer (some ⟨l.b, l.s + (q + fl.offset), none⟩), fun tv e => ?_, ?_⟩
          · cases e
            simp only [tvV, svV, cvV, ptrV, h1]
          · simp [execOp, ho, h2, Instr.fieldAt, run_underlying e1, e2, Instr.sureAddr, fieldPlace, sizeOf, typeInfo, e3, e5, addr_add, Nat.add_assoc, go_sem]
      · cases hs
    · cases hs
  · cases hs
theorem yields_indexS {t : TypeId} {x ix : Operand} {z : Nat} {b : Bn} {p d n e k : Nat} {i : Int} (ho : o.op = .indexAddr t x ix) (hs : stElem P t = some (none, z)) (hx : ops' T x = some (b, p, d, n, e)) (hi : opi T ix = some i) (hk : natOf i = some k) (hlt : Nat.blt k n = true) : Yields P B T H o (some (.s (.c (.p b (p + k * z))))) := fun φ ρ w h _ => by
  obtain ⟨l, h1, h2, h3⟩ := ops_ok h hx
  obtain ⟨kd, h4⟩ := opi_ok h hi
  have h5 := natOf_ok hk
  have h6 : k < n := Nat.blt_eq.mp hlt
  subst h5
  unfold stElem at hs
  simp only [inf_eq, und_eq] at hs
  split at hs
  · rename_i el e1
    split at hs
    · rename_i inf e2
      injection hs with hs
      injection hs with _ hs
      subst hs
      rw [if_neg (by omega)] at h3
      refine ⟨.pointer (some ⟨l.b, l.s + (p + k * inf.size), none⟩), fun tv e => ?_, ?_⟩
      · cases e
        simp only [tvV, svV, cvV, ptrV, h1]
      · simp [execOp, ho, h3, h4, Instr.indexAt, asIntOf, run_underlying e1, sizeOf, typeInfo, e2, addr_add, h6, Nat.add_assoc, go_sem]
    · cases hs
  · split at hs <;> cases hs
  · cases hs
theorem yields_indexA {t : TypeId} {x ix : Operand} {z : Nat} {b : Bn} {q n k : Nat} {i : Int} (ho : o.op = .indexAddr t x ix) (hs : stElem P t = some (some n, z)) (hx : opp T x = some (b, q)) (hi : opi T ix = some i) (hk : natOf i = some k) (hlt : Nat.blt k n = true) : Yields P B T H o (some (.s (.c (.p b (q + k * z))))) := fun φ ρ w h _ => by
  obtain ⟨l, h1, h3⟩ := opp_ok h hx
  obtain ⟨kd, h4⟩ := opi_ok h hi
  have h5 := natOf_ok hk
  have h6 : k < n := Nat.blt_eq.mp hlt
  subst h5
  unfold stElem at hs
  simp only [inf_eq, und_eq] at hs
  split at hs
  · split at hs <;> cases hs
  · rename_i n' el e1
    split at hs
    · rename_i inf e2
      injection hs with hs
      injection hs with hs1 hs
      injection hs1 with hs1
      subst hs
      subst hs1
      refine ⟨.pointer (some ⟨l.b, l.s + (q + k * inf.size), none⟩), fun tv e => ?_, ?_⟩
      · cases e
        simp only [tvV, svV, cvV, ptrV, h1]
      · simp [execOp, ho, h3, h4, Instr.indexAt, Instr.sureAddr, asIntOf, run_underlying e1, sizeOf, typeInfo, e2, addr_add, h6, Nat.add_assoc, go_sem]
    · cases hs
  · cases hs
theorem yields_load1 {t : TypeId} {x : Operand} {b : Bn} {q : Nat} {T' : TypeId} {st : Bool} {cs : List CV} {c : CV} (ho : o.op = .load t x) (hs : stLoad P t = some none) (hx : opp T x = some (b, q)) (hb : H.cells b = some (T', st, cs)) (hc : nth cs q = some c) : Yields P B T H o (some (.s (.c c))) := fun φ ρ w h sr => by
  rw [nth_eq] at hc
  obtain ⟨l, h1, h3⟩ := opp_ok h hx
  obtain ⟨l', arr, fz, i, k1, k2, _, _, _, _, k3, _⟩ := sr.block hb
  rw [h1] at k1
  cases k1
  obtain ⟨v, m1, m2⟩ := k3 q c hc
  have hcell : w.cell? ⟨l.b, l.s + q, none⟩ = some v := by rw [cell_of k2]; exact m1
  refine ⟨v, fun tv e => ?_, ?_⟩
  · cases e
    exact m2
  · unfold stLoad at hs
    simp only [inf_eq, und_eq] at hs
    split at hs
    · split at hs <;> cases hs
    · split at hs <;> cases hs
    · rename_i d n1 n2 e1
      have hag : (isAgg t).run P w = .ok false w := by
        simp only [isAgg, Sem.run_bind, run_underlying e1, Result.andThen_ok]
        rfl
      simp [execOp, ho, h3, Instr.loadAt, Instr.sureAddr, loadVar, hag, load, hcell, Sem.run, go_sem]
    · cases hs
theorem yields_loadN {t : TypeId} {x : Operand} {b : Bn} {q n : Nat} {T' : TypeId} {st : Bool} {cs r : List CV} (ho : o.op = .load t x) (hs : stLoad P t = some (some n)) (hx : opp T x = some (b, q)) (hb : H.cells b = some (T', st, cs)) (hc : ldN cs q n = some r) : Yields P B T H o (some (.s (.a r))) := fun φ ρ w h sr => by
  obtain ⟨l, h1, h3⟩ := opp_ok h hx
  obtain ⟨l', vs, k1, k2, k3, k4⟩ := sr.row hb hc
  rw [h1] at k1
  cases k1
  have hl := run_loadCells_list (P := P) w ⟨l.b, l.s + q, none⟩ vs (fun j v hv => by rw [addr_add]; exact k4 j v hv)
  rw [k3] at hl
  simp only [loadCells] at hl
  refine ⟨.agg vs.toArray, fun tv e => ?_, ?_⟩
  · cases e
    simp only [tvV, svV, k2]
  · have key : ∀ (d : TypeDesc) (i : TypeInfo), P.underlying t = some d → (∀ w, (isAgg t).run P w = .ok true w) → P.info? t = some i → n = i.size → (execOp ρ o).run P w = .ok (.value (.agg vs.toArray)) w := fun d i e1 e2 e3 e4 => by
      subst e4
      simp [execOp, ho, h3, Instr.loadAt, Instr.sureAddr, loadVar, e2, sizeOf, typeInfo, e3, hl, go_sem]
    unfold stLoad at hs
    simp only [inf_eq, und_eq] at hs
    split at hs
    · rename_i fs e1
      split at hs
      · rename_i i e2
        cases hs
        exact key _ i e1 (fun w => by simp [isAgg, run_underlying e1, go_sem]) e2 rfl
      · cases hs
    · rename_i m el e1
      split at hs
      · rename_i i e2
        cases hs
        exact key _ i e1 (fun w => by simp [isAgg, run_underlying e1, go_sem]) e2 rfl
      · cases hs
    · cases hs
    · cases hs
theorem svsV_get {φ : Ren} : ∀ {l : List SV} {vs : List Value}, svsV φ l = some vs → ∀ (i : Nat) (c : SV), l[i]? = some c → ∃ v, vs[i]? = some v ∧ svV φ c = some v
  | [], _, _, i, c, h => by cases i <;> cases h
  | c :: r, vs, h, i, q, hi => by
    simp only [svsV] at h
    cases h1 : svV φ c with
    | none => rw [h1] at h; cases h
    | some v =>
      cases h2 : svsV φ r with
      | none => rw [h1, h2] at h; cases h
      | some l =>
        rw [h1, h2] at h
        cases h
        cases i with
        | zero => cases hi; exact ⟨v, rfl, h1⟩
        | succ i => exact svsV_get h2 i q hi
theorem yields_extract {x : Operand} {i : Nat} {l : List SV} {v : SV} (ho : o.op = .extract x i) (hx : opd T x = some (.t l)) (hv : l[i]? = some v) : Yields P B T H o (some (.s v)) := fun φ ρ w h _ => by
  have h1 := h _ _ hx
  simp only [tvV] at h1
  cases h2 : svsV φ l with
  | none => rw [h2] at h1; cases h1
  | some vs =>
    rw [h2] at h1
    injection h1 with h1
    obtain ⟨u, k1, k2⟩ := svsV_get h2 i v hv
    refine ⟨u, fun tv e => ?_, ?_⟩
    · cases e
      exact k2
    · simp [execOp, ho, ← h1, Instr.extract, k1, go_sem]
end
end Ev
end Go.Proofs.YtajhndakkaniaaaGreatDoor
