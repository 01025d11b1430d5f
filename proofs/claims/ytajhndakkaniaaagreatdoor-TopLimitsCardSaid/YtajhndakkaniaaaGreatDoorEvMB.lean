/- An evaluator for closed runs: numbers, comparisons. -/
import Derived.Test.YtajhndakkaniaaaGreatDoorEvMA
import Derived.IntWalk
import Derived.Laws.BytesString
namespace Go.Proofs.YtajhndakkaniaaaGreatDoor
open Go

namespace Ev
noncomputable def binI (op : BinOp) (k : IntKind) (a b : Int) : Option Value := match op with
  | .add => some (.int k (k.wrap (a + b)))
  | .sub => some (.int k (k.wrap (a - b)))
  | .mul => some (.int k (k.wrap (a * b)))
  | .quo => match b with
    | .ofNat 0 => none
    | _ => some (.int k (k.wrap (a.tdiv b)))
  | .rem => match b with
    | .ofNat 0 => none
    | _ => some (.int k (a.tmod b))
  | .and => some (.int k (k.wrap (BitVec.ofInt k.bits a &&& BitVec.ofInt k.bits b).toNat))
  | .or => some (.int k (k.wrap (BitVec.ofInt k.bits a ||| BitVec.ofInt k.bits b).toNat))
  | .xor => some (.int k (k.wrap (BitVec.ofInt k.bits a ^^^ BitVec.ofInt k.bits b).toNat))
  | .eql => some (.bool (a == b))
  | .neq => some (.bool (a != b))
  | .lss => some (.bool (decide (a < b)))
  | .leq => some (.bool (decide (a ≤ b)))
  | .gtr => some (.bool (decide (a > b)))
  | .geq => some (.bool (decide (a ≥ b)))
  | _ => none
noncomputable def binS (op : BinOp) (k : IntKind) (a : Int) (n : Nat) : Option Value := match op with
  | .shl => some (.int k (k.wrap (a * 2 ^ (min n k.bits))))
  | .shr => some (.int k (a.fdiv (2 ^ (min n k.bits))))
  | _ => none
noncomputable def isShift : BinOp → Bool
  | .shl => true
  | .shr => true
  | _ => false
section
variable {P : Program} {B : Nat} {T : Tm} {H : Hp} {o : Oper}
theorem guard_int (op : BinOp) (t : TypeId) (x y : Operand) (k k' : IntKind) (a b : Int) (w : World) : (eqGuard op t x y (.int k a) (.int k' b)).run P w = .ok () w := by
  cases op <;> simp [eqGuard, go_sem]
theorem run_binI {op : BinOp} {t : TypeId} {k : IntKind} {a b : Int} {r : Value} {w : World} (hr : binI op k a b = some r) : (binOp op t (.int k a) (.int k b)).run P w = .ok r w := by
  cases op <;> simp only [binI] at hr <;> first
    | (cases hr; simp [binOp, Op.intArith, Op.intBits, Op.intCmp, go_sem]; done)
    | (split at hr
       · cases hr
       · rename_i hb
         cases hr
         have hb0 : b ≠ 0 := fun e => hb (by rw [e]; rfl)
         simp [binOp, Op.intDiv, hb0, go_sem])
    | cases hr
theorem yields_binI {op : BinOp} {t t' : TypeId} {x y : Operand} {k : IntKind} {a b : Int} {r : Value} (ho : o.op = .binOp op t x y t') (hx : opk T x = some (.int k a)) (hy : opk T y = some (.int k b)) (hr : binI op k a b = some r) : Yields P B T H o (some (.s (.c (.k r)))) := fun φ ρ w h _ => by
  have h1 := opk_ok h hx
  have h2 := opk_ok h hy
  refine ⟨r, fun tv e => by cases e; rfl, ?_⟩
  have key := run_binI (P := P) (w := w) (t := t) hr
  simp only [execOp, ho, h1, h2, Sem.run_bind, guard_int, Result.andThen_ok, key]
  rfl
theorem yields_binS {op : BinOp} {t t' : TypeId} {x y : Operand} {k k' : IntKind} {a b : Int} {n : Nat} {r : Value} (ho : o.op = .binOp op t x y t') (hx : opk T x = some (.int k a)) (hy : opk T y = some (.int k' b)) (hn : natOf b = some n) (hr : binS op k a n = some r) : Yields P B T H o (some (.s (.c (.k r)))) := fun φ ρ w h _ => by
  have h1 := opk_ok h hx
  have h2 := opk_ok h hy
  have h3 := natOf_ok hn
  subst h3
  refine ⟨r, fun tv e => by cases e; rfl, ?_⟩
  have key : (binOp op t (.int k a) (.int k' n)).run P w = .ok r w := by
    cases op <;> simp only [binS] at hr <;> first
      | (cases hr; simp [binOp, Op.shift, go_sem]; done)
      | cases hr
  simp only [execOp, ho, h1, h2, Sem.run_bind, guard_int, Result.andThen_ok, key]
  rfl
/-- between which bounds a number lies -/
noncomputable def rng (H : Hp) : CV → Option (IntKind × Int × Int)
  | .k (.int k n) => some (k, n, n)
  | .u k x g n => match symB H x with
    | some (lo, hi) => match g with
      | true => some (k, n - hi, n - lo)
      | false => some (k, n + lo, n + hi)
    | none => none
  | _ => none
theorem rng_ok {φ : Ren} {w : World} (sr : SR P B φ H w) {c : CV} {v : Value} {k : IntKind} {a b : Int} (hr : rng H c = some (k, a, b)) (hv : cvV φ c = some v) : ∃ i, v = .int k i ∧ a ≤ i ∧ i ≤ b := by
  unfold rng at hr
  split at hr
  · cases hr
    cases hv
    exact ⟨_, rfl, Int.le_refl _, Int.le_refl _⟩
  · rename_i x g n
    split at hr
    · rename_i lo hi e
      obtain ⟨l, h1, h2, h3⟩ := sr.sym e
      simp only [cvV, h1] at hv
      injection hv with hv
      subst hv
      split at hr
      · cases hr
        exact ⟨_, rfl, by simp only [symV]; omega, by simp only [symV]; omega⟩
      · cases hr
        exact ⟨_, rfl, by simp only [symV]; omega, by simp only [symV]; omega⟩
    · cases hr
  · cases hr
noncomputable def cmpR (op : BinOp) (a b c d : Int) : Option Bool := match op with
  | .lss => if b < c then some true else if d ≤ a then some false else none
  | .leq => if b ≤ c then some true else if d < a then some false else none
  | .gtr => if d < a then some true else if b ≤ c then some false else none
  | .geq => if d ≤ a then some true else if b < c then some false else none
  | .eql => if b < c then some false else if d < a then some false else none
  | .neq => if b < c then some true else if d < a then some true else none
  | _ => none
theorem cmpR_ok {op : BinOp} {k : IntKind} {a b c d i j : Int} {r : Bool} (h : cmpR op a b c d = some r) (h1 : a ≤ i) (h2 : i ≤ b) (h3 : c ≤ j) (h4 : j ≤ d) : binI op k i j = some (.bool r) := by
  cases op <;> simp only [cmpR] at h <;> first | cases h | skip
  all_goals
    simp only [binI]
    split at h
    · cases h
      congr 2
      first
        | (rw [decide_eq_true_iff]; omega)
        | (rw [beq_eq_false_iff_ne]; omega)
        | (rw [bne_iff_ne]; omega)
    · split at h
      · cases h
        congr 2
        first
          | (rw [decide_eq_false_iff_not]; omega)
          | (rw [beq_eq_false_iff_ne]; omega)
          | (rw [bne_iff_ne]; omega)
      · cases h
theorem opc_ok {φ : Ren} {ρ : Operand → Value} (h : EvR φ T ρ) {x : Operand} {c : CV} (hx : opd T x = some (.s (.c c))) : cvV φ c = some (ρ x) := by
  have := h _ _ hx
  simpa only [tvV, svV] using this
theorem yields_cmpR {op : BinOp} {t t' : TypeId} {x y : Operand} {u v : CV} {k : IntKind} {a b c d : Int} {r : Bool} (ho : o.op = .binOp op t x y t') (hx : opd T x = some (.s (.c u))) (hy : opd T y = some (.s (.c v))) (h1 : rng H u = some (k, a, b)) (h2 : rng H v = some (k, c, d)) (hr : cmpR op a b c d = some r) : Yields P B T H o (some (.s (.c (.k (.bool r))))) := fun φ ρ w h sr => by
  obtain ⟨i, k1, k2, k3⟩ := rng_ok sr h1 (opc_ok h hx)
  obtain ⟨j, m1, m2, m3⟩ := rng_ok sr h2 (opc_ok h hy)
  refine ⟨.bool r, fun tv e => by cases e; rfl, ?_⟩
  have key := run_binI (P := P) (w := w) (t := t) (cmpR_ok (k := k) hr k2 k3 m2 m3)
  simp only [execOp, ho, k1, m1, Sem.run_bind, guard_int, Result.andThen_ok, key]
  rfl
theorem wrap_small {i : Int} (h1 : -9223372036854775808 ≤ i) (h2 : i < 9223372036854775808) : IntKind.wrap .i64 i = i := by
  exact IntWalk.i64_in i ⟨h1, by omega⟩
/-- a number less one that is not known -/
theorem yields_subU {t t' : TypeId} {x y : Operand} {n m a b : Int} {zz : Bn} {k : IntKind} (ho : o.op = .binOp .sub t x y t') (hx : opd T x = some (.s (.c (.k (.int .i64 n))))) (hy : opd T y = some (.s (.c (.u .i64 zz false m)))) (hr : rng H (.u .i64 zz true (n - m)) = some (k, a, b)) (h1 : -9223372036854775808 ≤ a) (h2 : b < 9223372036854775808) : Yields P B T H o (some (.s (.c (.u .i64 zz true (n - m))))) := fun φ ρ w h sr => by
  have e1 := opc_ok h hx
  have e2 := opc_ok h hy
  simp only [cvV] at e1
  cases hz : φ zz with
  | none => simp only [cvV, hz] at e2; cases e2
  | some l =>
    simp only [cvV, hz, symV] at e2
    injection e1 with e1
    injection e2 with e2
    have hv : cvV φ (.u .i64 zz true (n - m)) = some (.int .i64 (n - m - l.c)) := by simp only [cvV, hz, symV]
    obtain ⟨i, k1, k2, k3⟩ := rng_ok sr hr hv
    injection k1 with k0 k1
    subst k1
    refine ⟨.int .i64 (n - m - l.c), fun tv e => by cases e; exact hv, ?_⟩
    have key := run_binI (P := P) (w := w) (t := t) (op := .sub) (k := .i64) (a := n) (b := m + l.c) rfl
    rw [show n - (m + (l.c : Int)) = n - m - l.c by omega, wrap_small (Int.le_trans h1 k2) (Int.lt_of_le_of_lt k3 h2)] at key
    simp only [execOp, ho, ← e1, ← e2, Sem.run_bind, guard_int, Result.andThen_ok, key]
    rfl
theorem yields_not {t : TypeId} {x : Operand} {b : Bool} (ho : o.op = .unOp .not t x) (hx : opk T x = some (.bool b)) : Yields P B T H o (some (.s (.c (.k (.bool !b))))) := fun φ ρ w h _ => by
  have h1 := opk_ok h hx
  exact ⟨.bool !b, fun tv e => by cases e; rfl, by simp [execOp, ho, h1, Op.unary, go_sem]⟩
/-- ==, != of what is no number -/
inductive Two where
  | eq
  | ne
noncomputable def twoOf : BinOp → Option Two
  | .eql => some .eq
  | .neq => some .ne
  | _ => none
noncomputable def Two.of : Two → Bool → Value
  | .eq, b => .bool b
  | .ne, b => .bool (!b)
/-- where no two nil interfaces meet, and no two structs -/
noncomputable def calm : Value → Value → Bool
  | .nilIface, .nilIface => false
  | .agg _, .agg _ => false
  | .int _ _, _ => false
  | .string _, _ => false
  | .float _ _, _ => false
  | .complex _ _ _, _ => false
  | _, _ => true
theorem guard_calm (op : BinOp) (t : TypeId) (x y : Operand) (u v : Value) (hc : calm u v = true) (w : World) : (eqGuard op t x y u v).run P w = .ok () w := by
  cases op <;> simp only [eqGuard] <;> first | rfl | skip
  all_goals
    cases u <;> first | (cases v <;> first | rfl | cases hc) | rfl | cases hc
theorem yields_eq {op : BinOp} {tw : Two} {t t' : TypeId} {x y : Operand} {r : Bool} (ho : o.op = .binOp op t x y t') (htw : twoOf op = some tw)
    (hr : ∀ (φ : Ren) (ρ : Operand → Value) (w : World), EvR φ T ρ → SR P B φ H w → calm (ρ x) (ρ y) = true ∧ (Op.equal t (ρ x) (ρ y)).run P w = .ok r w) : Yields P B T H o (some (.s (.c (.k (tw.of r))))) := fun φ ρ w h sr => by
  obtain ⟨h1, h2⟩ := hr φ ρ w h sr
  refine ⟨tw.of r, fun tv e => by cases e; rfl, ?_⟩
  have key : (binOp op t (ρ x) (ρ y)).run P w = .ok (tw.of r) w := by
    cases op <;> simp only [twoOf] at htw <;> first | cases htw | skip
    all_goals
      generalize ρ x = u at *
      generalize ρ y = v at *
      cases u <;> first
        | (cases h1; done)
        | (simp only [binOp, Sem.run_bind, h2, Result.andThen_ok]; rfl)
        | (cases v <;> first | (cases h1; done) | (simp only [binOp, Sem.run_bind, h2, Result.andThen_ok]; rfl))
  simp only [execOp, ho, Sem.run_bind, guard_calm _ _ _ _ _ _ h1, Result.andThen_ok, key]
  rfl
end
end Ev
end Go.Proofs.YtajhndakkaniaaaGreatDoor
/- An evaluator for closed runs: equality of addresses, slices, interfaces; strings. -/
namespace Go.Proofs.YtajhndakkaniaaaGreatDoor
open Go

namespace Ev
inductive TK where
  | ptr
  | ifc
  | slc
  | boo
  | oth
noncomputable def tkOf (P : Program) (t : TypeId) : TK := match und P t with
  | some (.pointer e) => match inf P e with
    | some i => if Nat.beq i.size 0 then .oth else .ptr
    | none => .oth
  | some (.interface _) => .ifc
  | some (.slice _) => .slc
  | some .bool => .boo
  | _ => .oth
noncomputable def livePlain (H : Hp) (x : Bn) : Bool := match H.cells x with
  | some (_, false, _) => true
  | _ => false
noncomputable def eqCV (H : Hp) : TK → CV → CV → Option Bool
  | .ptr, .k (.pointer none), .k (.pointer none) => some true
  | .ptr, .k (.pointer none), .p _ _ => some false
  | .ptr, .p _ _, .k (.pointer none) => some false
  | .ptr, .p x o, .p y q => match Bn.beq x y with
    | true => some (Nat.beq o q)
    | false => if livePlain H x && livePlain H y then some false else none
  | .ifc, .k .nilIface, .i _ _ _ => some false
  | .ifc, .i _ _ _, .k .nilIface => some false
  | .slc, .k (.slice none _ _), .k (.slice none _ _) => some true
  | .slc, .s _ _ _ _ _, .k (.slice none _ _) => some false
  | .boo, .k (.bool a), .k (.bool b) => some (a == b)
  | _, _, _ => none
section
variable {P : Program} {B : Nat} {T : Tm} {H : Hp} {o : Oper}
theorem tk_ptr {t : TypeId} (h : tkOf P t = .ptr) : ∃ e i, P.underlying t = some (.pointer e) ∧ P.info? e = some i ∧ i.size ≠ 0 := by
  unfold tkOf at h
  simp only [inf_eq, und_eq] at h
  split at h
  · rename_i e h1
    split at h
    · rename_i i h2
      split at h
      · cases h
      · rename_i h3
        exact ⟨e, i, h1, h2, fun e => h3 (by rw [e]; rfl)⟩
    · cases h
  · cases h
  · cases h
  · cases h
  · cases h
theorem tk_other {t : TypeId} {k : TK} (h : tkOf P t = k) : (k = .ifc → ∃ ms, P.underlying t = some (.interface ms)) ∧ (k = .slc → ∃ e, P.underlying t = some (.slice e)) ∧ (k = .boo → P.underlying t = some .bool) := by
  unfold tkOf at h
  simp only [inf_eq, und_eq] at h
  split at h
  · split at h
    · split at h <;> subst h <;> exact ⟨fun e => (by cases e), fun e => (by cases e), fun e => (by cases e)⟩
    · subst h; exact ⟨fun e => (by cases e), fun e => (by cases e), fun e => (by cases e)⟩
  · rename_i ms h1
    subst h; exact ⟨fun _ => ⟨ms, h1⟩, fun e => (by cases e), fun e => (by cases e)⟩
  · rename_i e h1
    subst h; exact ⟨fun e => (by cases e), fun _ => ⟨e, h1⟩, fun e => (by cases e)⟩
  · rename_i h1
    subst h; exact ⟨fun e => (by cases e), fun e => (by cases e), fun _ => h1⟩
  · subst h; exact ⟨fun e => (by cases e), fun e => (by cases e), fun e => (by cases e)⟩
theorem live_plain {φ : Ren} {w : World} (sr : SR P B φ H w) {x : Bn} {l : Loc} (hx : livePlain H x = true) (hl : φ x = some l) : ∃ c T, w.heap[l.b]? = some (.cells c T (0, 0)) ∧ ∃ o, H.t.get x = some o := by
  unfold livePlain at hx
  split at hx
  · rename_i T cs e
    obtain ⟨l', c, fz, i, h1, h2, _, _, _, h3, _⟩ := sr.block e
    rw [hl] at h1
    cases h1
    rcases h3 with rfl | ⟨h4, _⟩
    · exact ⟨c, T, h2, _, Hp.cells_get e⟩
    · cases h4
  · cases hx
theorem run_sameAddr_other {w : World} {a b : Addr} {c c' : Array Value} {T T' : TypeId} (ha : w.heap[a.block]? = some (.cells c T (0, 0))) (hb : w.heap[b.block]? = some (.cells c' T' (0, 0))) (hne : a.block ≠ b.block) : (sameAddr a b).run P w = .ok false w := by
  have h1 : (a.block == b.block) = false := beq_eq_false_iff_ne.2 hne
  simp [sameAddr, h1, frozen, noView, viewAt, shape, mayBeOne, stringish, World.frozen?, World.shape?, ha, hb, go_sem, Sem.run]
theorem eq_ptr1 {t e : TypeId} (ht : P.underlying t = some (.pointer e)) (d : Nat) (b : Option Addr) (w : World) : (Op.equalIn (d + 1) t (.pointer none) (.pointer b)).run P w = .ok b.isNone w := by
  simp [Op.equalIn, run_underlying ht, go_sem]
theorem eq_ptr2 {t e : TypeId} (ht : P.underlying t = some (.pointer e)) (d : Nat) (a : Addr) (w : World) : (Op.equalIn (d + 1) t (.pointer (some a)) (.pointer none)).run P w = .ok false w := by
  simp [Op.equalIn, run_underlying ht, go_sem]
theorem eq_ptr3 {t e : TypeId} {i : TypeInfo} (ht : P.underlying t = some (.pointer e)) (hi : P.info? e = some i) (hz : i.size ≠ 0) (d : Nat) (a b : Addr) (w : World) : (Op.equalIn (d + 1) t (.pointer (some a)) (.pointer (some b))).run P w = (sameAddr a b).run P w := by
  simp only [Op.equalIn, Sem.run_bind, run_underlying ht, Result.andThen_ok, sizeOf, typeInfo]
  simp [hi, hz, go_sem]
theorem eq_ifc1 {t : TypeId} {ms : Array (String × TypeId)} (ht : P.underlying t = some (.interface ms)) (d : Nat) (u : TypeId) (v : Value) (w : World) : (Op.equalIn (d + 1) t .nilIface (.iface u v)).run P w = .ok false w := by
  simp [Op.equalIn, run_underlying ht, go_sem]
theorem eq_ifc2 {t : TypeId} {ms : Array (String × TypeId)} (ht : P.underlying t = some (.interface ms)) (d : Nat) (u : TypeId) (v : Value) (w : World) : (Op.equalIn (d + 1) t (.iface u v) .nilIface).run P w = .ok false w := by
  simp [Op.equalIn, run_underlying ht, go_sem]
theorem eq_slc1 {t e : TypeId} (ht : P.underlying t = some (.slice e)) (d n c m q : Nat) (b : Option Addr) (w : World) : (Op.equalIn (d + 1) t (.slice none n c) (.slice b m q)).run P w = .ok b.isNone w := by
  simp [Op.equalIn, run_underlying ht, go_sem]
theorem eq_slc2 {t e : TypeId} (ht : P.underlying t = some (.slice e)) (d n c m q : Nat) (a : Addr) (w : World) : (Op.equalIn (d + 1) t (.slice (some a) n c) (.slice none m q)).run P w = .ok false w := by
  simp [Op.equalIn, run_underlying ht, go_sem]
theorem eq_boo {t : TypeId} (ht : P.underlying t = some .bool) (d : Nat) (a b : Bool) (w : World) : (Op.equalIn (d + 1) t (.bool a) (.bool b)).run P w = .ok (a == b) w := by
  simp [Op.equalIn, run_underlying ht, go_sem]
theorem run_same {w : World} (b s o q : Nat) : (sameAddr ⟨b, s + o, none⟩ ⟨b, s + q, none⟩).run P w = .ok (Nat.beq o q) w := by
  have h4 : (({ block := b, off := s + o, spot := none } : Addr) == { block := b, off := s + q, spot := none }) = Nat.beq o q := by
    by_cases e4 : o = q
    · subst e4
      rw [beq_self_eq_true, Nat.beq_refl]
    · have e5 : Nat.beq o q = false := by
        cases e6 : Nat.beq o q with
        | true => exact absurd (Nat.eq_of_beq_eq_true e6) e4
        | false => rfl
      rw [e5]
      refine beq_eq_false_iff_ne.2 fun e7 => e4 ?_
      injection e7 with _ e8
      omega
  simp [sameAddr, h4, go_sem]
theorem eqCV_ok {t : TypeId} {u v : CV} {r : Bool} (he : eqCV H (tkOf P t) u v = some r) {φ : Ren} {w : World} {x y : Value} (hx : cvV φ u = some x) (hy : cvV φ v = some y) (sr : SR P B φ H w) : calm x y = true ∧ (Op.equal t x y).run P w = .ok r w := by
  generalize hk : tkOf P t = k at he
  have ht := tk_other hk
  unfold eqCV at he
  show calm x y = true ∧ (Op.equalIn (9999 + 1) t x y).run P w = .ok r w
  split at he
  · cases he; cases hx; cases hy
    obtain ⟨e, i, h1, h2, h3⟩ := tk_ptr hk
    exact ⟨rfl, eq_ptr1 h1 _ _ _⟩
  · cases he; cases hx
    obtain ⟨e, i, h1, h2, h3⟩ := tk_ptr hk
    simp only [cvV, ptrV] at hy
    split at hy
    · cases hy
      exact ⟨rfl, eq_ptr1 h1 _ _ _⟩
    · cases hy
  · cases he; cases hy
    obtain ⟨e, i, h1, h2, h3⟩ := tk_ptr hk
    simp only [cvV, ptrV] at hx
    split at hx
    · cases hx
      exact ⟨rfl, eq_ptr2 h1 _ _ _⟩
    · cases hx
  · rename_i x' o' y' q'
    obtain ⟨e, i, h1, h2, h3⟩ := tk_ptr hk
    simp only [cvV, ptrV] at hx hy
    cases k1 : φ x' with
    | none => rw [k1] at hx; cases hx
    | some l =>
      cases k2 : φ y' with
      | none => rw [k2] at hy; cases hy
      | some m =>
        rw [k1] at hx
        rw [k2] at hy
        injection hx with hx
        injection hy with hy
        subst hx
        subst hy
        refine ⟨rfl, ?_⟩
        rw [eq_ptr3 h1 h2 h3]
        cases hb : Bn.beq x' y' with
        | true =>
          rw [hb] at he
          have := Bn.beq_eq hb
          subst this
          rw [k1] at k2
          cases k2
          cases he
          exact run_same _ _ _ _
        | false =>
          rw [hb] at he
          simp only at he
          split at he
          · rename_i e4
            cases he
            simp only [Bool.and_eq_true] at e4
            obtain ⟨c, T1, m1, o1, m2⟩ := live_plain sr e4.1 k1
            obtain ⟨c', T2, n1, o2, n2⟩ := live_plain sr e4.2 k2
            have hne : l.b ≠ m.b := fun e => Bn.beq_ne hb (sr.inj _ _ _ _ _ _ m2 n2 k1 k2 e)
            exact run_sameAddr_other (P := P) (w := w) (a := ⟨l.b, l.s + o', none⟩) (b := ⟨m.b, m.s + q', none⟩) m1 n1 hne
          · cases he
  · cases he; cases hx
    obtain ⟨ms, h1⟩ := ht.1 rfl
    simp only [cvV] at hy
    split at hy
    · cases hy
      exact ⟨rfl, eq_ifc1 h1 _ _ _ _⟩
    · cases hy
  · cases he; cases hy
    obtain ⟨ms, h1⟩ := ht.1 rfl
    simp only [cvV] at hx
    split at hx
    · cases hx
      exact ⟨rfl, eq_ifc2 h1 _ _ _ _⟩
    · cases hx
  · cases he; cases hx; cases hy
    obtain ⟨e, h1⟩ := ht.2.1 rfl
    exact ⟨rfl, eq_slc1 h1 _ _ _ _ _ _ _⟩
  · cases he; cases hy
    obtain ⟨e, h1⟩ := ht.2.1 rfl
    simp only [cvV] at hx
    split at hx
    · split at hx
      · cases hx
        exact ⟨rfl, eq_slc2 h1 _ _ _ _ _ _ _⟩
      · cases hx
    · cases hx
  · cases he; cases hx; cases hy
    exact ⟨rfl, eq_boo (ht.2.2 rfl) _ _ _ _⟩
  · cases he
theorem yields_eqCV {op : BinOp} {tw : Two} {t t' : TypeId} {x y : Operand} {u v : CV} {r : Bool} (ho : o.op = .binOp op t x y t') (htw : twoOf op = some tw) (hx : opd T x = some (.s (.c u))) (hy : opd T y = some (.s (.c v))) (he : eqCV H (tkOf P t) u v = some r) : Yields P B T H o (some (.s (.c (.k (tw.of r))))) :=
  yields_eq ho htw fun _ _ _ h sr => eqCV_ok he (h _ _ hx) (h _ _ hy) sr
theorem eq_map1 {t k e : TypeId} (ht : P.underlying t = some (.map k e)) (d : Nat) (w : World) : (Op.equalIn (d + 1) t (.map none) (.map none)).run P w = .ok true w := by
  simp [Op.equalIn, run_underlying ht, go_sem]
theorem eq_map2 {t k e : TypeId} (ht : P.underlying t = some (.map k e)) (d : Nat) (b : Nat) (w : World) : (Op.equalIn (d + 1) t (.map (some b)) (.map none)).run P w = .ok false w := by
  simp [Op.equalIn, run_underlying ht, go_sem]
/-- a map, and none -/
noncomputable def eqMp (P : Program) (t : TypeId) (u v : CV) : Option Bool := match und P t with
  | some (.map _ _) => match u, v with
    | .k (.map none), .k (.map none) => some true
    | .m _, .k (.map none) => some false
    | _, _ => none
  | _ => none
theorem eqMp_ok {t : TypeId} {u v : CV} {r : Bool} (he : eqMp P t u v = some r) {φ : Ren} {w : World} {x y : Value} (hx : cvV φ u = some x) (hy : cvV φ v = some y) : calm x y = true ∧ (Op.equal t x y).run P w = .ok r w := by
  unfold eqMp at he
  simp only [und_eq] at he
  show calm x y = true ∧ (Op.equalIn (9999 + 1) t x y).run P w = .ok r w
  split at he
  · rename_i kt e ht
    split at he
    · cases he; cases hx; cases hy
      exact ⟨rfl, eq_map1 ht _ _⟩
    · cases he; cases hy
      simp only [cvV] at hx
      split at hx
      · cases hx
        exact ⟨rfl, eq_map2 ht _ _ _⟩
      · cases hx
    · cases he
  · cases he
theorem yields_eqMp {op : BinOp} {tw : Two} {t t' : TypeId} {x y : Operand} {u v : CV} {r : Bool} (ho : o.op = .binOp op t x y t') (htw : twoOf op = some tw) (hx : opd T x = some (.s (.c u))) (hy : opd T y = some (.s (.c v))) (he : eqMp P t u v = some r) : Yields P B T H o (some (.s (.c (.k (tw.of r))))) :=
  yields_eq ho htw fun _ _ _ h _ => eqMp_ok he (h _ _ hx) (h _ _ hy)
/-- strings -/
noncomputable def binT (op : BinOp) (a b : ByteArray) : Option Value := match op with
  | .eql => some (.bool (a.toList == b.toList))
  | .neq => some (.bool (!(a.toList == b.toList)))
  | _ => none
theorem yields_binT {op : BinOp} {t t' : TypeId} {x y : Operand} {a b : ByteArray} {r : Value} (ho : o.op = .binOp op t x y t') (hx : opk T x = some (.string a)) (hy : opk T y = some (.string b)) (hr : binT op a b = some r) : Yields P B T H o (some (.s (.c (.k r)))) := fun φ ρ w h _ => by
  have h1 := opk_ok h hx
  have h2 := opk_ok h hy
  refine ⟨r, fun tv e => by cases e; rfl, ?_⟩
  have hg : (eqGuard op t x y (.string a) (.string b)).run P w = .ok () w := by cases op <;> simp [eqGuard, go_sem]
  have key : (binOp op t (.string a) (.string b)).run P w = .ok r w := by
    cases op <;> simp only [binT] at hr <;> first
      | (cases hr; simp [binOp, Op.stringOp, go_sem]; done)
      | cases hr
  simp only [execOp, ho, h1, h2, Sem.run_bind, hg, Result.andThen_ok, key]
  rfl
end
end Ev
end Go.Proofs.YtajhndakkaniaaaGreatDoor
/- An evaluator for closed runs: slicing, lengths, conversions, functions, interfaces. -/
namespace Go.Proofs.YtajhndakkaniaaaGreatDoor
open Go

namespace Ev
noncomputable def stSlice (P : Program) (t : TypeId) : Option Nat := match und P t with
  | some (.slice e) => match inf P e with
    | some i => some i.size
    | none => none
  | _ => none
theorem stSlice_ok {P : Program} {t : TypeId} {z : Nat} (h : stSlice P t = some z) : ∃ e i, P.underlying t = some (.slice e) ∧ P.info? e = some i ∧ i.size = z := by
  unfold stSlice at h
  simp only [inf_eq, und_eq] at h
  split at h
  · rename_i e h1
    split at h
    · rename_i i h2
      cases h
      exact ⟨e, i, h1, h2, rfl⟩
    · cases h
  · cases h
/-- a bound of a slice: what is not said is given -/
noncomputable def bnd (T : Tm) (d : Nat) : Option Operand → Option Nat
  | none => some d
  | some x => match opi T x with
    | some i => natOf i
    | none => none
section
variable {P : Program} {B : Nat} {T : Tm} {H : Hp} {o : Oper}
theorem bnd_ok {φ : Ren} {ρ : Operand → Value} (h : EvR φ T ρ) {d k : Nat} {x : Option Operand} (hx : bnd T d x = some k) : (x = none ∧ k = d) ∨ ∃ q kd, x = some q ∧ ρ q = .int kd k := by
  cases x with
  | none => cases hx; exact .inl ⟨rfl, rfl⟩
  | some q =>
    simp only [bnd] at hx
    cases h1 : opi T q with
    | none => rw [h1] at hx; cases hx
    | some i =>
      rw [h1] at hx
      obtain ⟨kd, h2⟩ := opi_ok h h1
      exact .inr ⟨q, kd, rfl, by rw [h2, natOf_ok hx]⟩
theorem run_bound {w : World} (kd : IntKind) (a y : Nat) (code : BoundsCode) (h : a ≤ y) : (Instr.sliceBound (.int kd a) y code).run P w = .ok a w := by
  have h1 : ((a : Int) ≤ (y : Int)) := by omega
  simp [Instr.sliceBound, asIntOf, h1, go_sem]
theorem run_bounds {φ : Ren} {ρ : Operand → Value} {w : World} (h : EvR φ T ρ) {n c a b : Nat} {lo hi : Option Operand} (ha : bnd T 0 lo = some a) (hb : bnd T n hi = some b) (hab : a ≤ b) (hbn : b ≤ c) (isS : Bool) :
    (Instr.sliceBounds isS n c (lo.map ρ) (hi.map ρ) none).run P w = .ok (a, b, c) w := by
  rcases bnd_ok h ha with ⟨rfl, rfl⟩ | ⟨q, kd, rfl, h1⟩
  · rcases bnd_ok h hb with ⟨rfl, rfl⟩ | ⟨r, ke, rfl, h2⟩
    · simp [Instr.sliceBounds, go_sem]
    · simp [Instr.sliceBounds, h2, run_bound ke b c _ (by omega), go_sem]
  · rcases bnd_ok h hb with ⟨rfl, rfl⟩ | ⟨r, ke, rfl, h2⟩
    · simp [Instr.sliceBounds, h1, run_bound kd a b _ (by omega), go_sem]
    · simp [Instr.sliceBounds, h1, h2, run_bound kd a b _ hab, run_bound ke b c _ (by omega), go_sem]
theorem run_sliceAt {w : World} {t el : TypeId} {i : TypeInfo} (k1 : P.underlying t = some (.slice el)) (k2 : P.info? el = some i) (A : Option Addr) (n c a b m : Nat) (lo hi mx : Option Value) (hbs : (Instr.sliceBounds true n c lo hi mx).run P w = .ok (a, b, m) w) :
    (Instr.sliceAt t (.slice A n c) lo hi mx).run P w = .ok (.slice (if m = a then A else A.map (·.add (a * i.size))) (b - a) (m - a)) w := by
  simp [Instr.sliceAt, Instr.slice, run_underlying k1, hbs, sizeOf, typeInfo, k2, go_sem]
theorem yields_sliceG {t : TypeId} {x : Operand} {lo hi : Option Operand} {z : Nat} {b : Bn} {p d n e a h' : Nat} (ho : o.op = .slice t x lo hi none) (hs : stSlice P t = some z) (hx : ops' T x = some (b, p, d, n, e)) (ha : bnd T 0 lo = some a) (hb : bnd T n hi = some h') (hab : Nat.ble a h' = true) (hbc : ∀ φ l w, SR P B φ H w → φ b = some l → n + d ≤ l.c → h' + d ≤ l.c) :
    Yields P B T H o (some (.s (.c (.s b (p + a * z) (d + a) (h' - a) (if Nat.beq a 0 then e else p))))) := fun φ ρ w h sr => by
  obtain ⟨l, h1, h2, h3⟩ := ops_ok h hx
  obtain ⟨el, i, k1, k2, k3⟩ := stSlice_ok hs
  have hab := Nat.le_of_ble_eq_true hab
  have hbn := hbc φ l w sr h1 h2
  have hbs := run_bounds (P := P) (w := w) h (c := l.c - d) ha hb hab (by omega) true
  have e1 : (Nat.beq a 0 = true) ↔ a = 0 := ⟨Nat.eq_of_beq_eq_true, fun e => by rw [e]; rfl⟩
  refine ⟨.slice (some ⟨l.b, l.s + (if l.c ≤ d + a then (if Nat.beq a 0 then e else p) else p + a * z), none⟩) (h' - a) (l.c - (d + a)), fun tv q => ?_, ?_⟩
  · cases q
    simp only [tvV, svV, cvV, h1]
    rw [if_pos (by omega)]
  · have key : (if l.c - d = a then some (⟨l.b, l.s + (if l.c ≤ d then e else p), none⟩ : Addr) else (some (⟨l.b, l.s + (if l.c ≤ d then e else p), none⟩ : Addr)).map (·.add (a * i.size))) = some ⟨l.b, l.s + (if l.c ≤ d + a then (if Nat.beq a 0 then e else p) else p + a * z), none⟩ := by
      rw [k3]
      by_cases c1 : l.c ≤ d
      · have c2 : a = 0 := by omega
        subst c2
        rw [if_pos (by omega), if_pos c1, if_pos (by omega), if_pos (show Nat.beq 0 0 = true from rfl)]
      · by_cases c2 : l.c - d = a
        · rw [if_pos c2, if_neg c1, if_pos (by omega), if_neg (fun q => by have := e1.1 q; omega)]
        · rw [if_neg c2, if_neg c1, if_neg (by omega), Option.map_some, addr_add, Nat.add_assoc]
    have hc : l.c - d - a = l.c - (d + a) := by omega
    have hr := run_sliceAt k1 k2 (some (⟨l.b, l.s + (if l.c ≤ d then e else p), none⟩ : Addr)) n (l.c - d) a h' (l.c - d) _ _ _ hbs
    rw [key, hc] at hr
    simp only [execOp, ho, h3, Option.map_none, Sem.run_bind, hr, Result.andThen_ok]
    rfl
theorem yields_slice {t : TypeId} {x : Operand} {lo hi : Option Operand} {z : Nat} {b : Bn} {p d n e a h' : Nat} (ho : o.op = .slice t x lo hi none) (hs : stSlice P t = some z) (hx : ops' T x = some (b, p, d, n, e)) (ha : bnd T 0 lo = some a) (hb : bnd T n hi = some h') (hab : Nat.ble a h' = true) (hbn : Nat.ble h' n = true) :
    Yields P B T H o (some (.s (.c (.s b (p + a * z) (d + a) (h' - a) (if Nat.beq a 0 then e else p))))) := fun φ ρ w h sr => by
  exact yields_sliceG ho hs hx ha hb hab (fun φ l w _ _ hn => by have := Nat.le_of_ble_eq_true hbn; omega) φ ρ w h sr
theorem yields_slice3 {t : TypeId} {x m : Operand} {lo hi : Option Operand} {z : Nat} {b : Bn} {p d n e a h' q : Nat} (ho : o.op = .slice t x lo hi (some m)) (hs : stSlice P t = some z) (hx : ops' T x = some (b, p, d, n, e)) (ha : bnd T 0 lo = some a) (hi' : hi.isSome = true) (hb : bnd T n hi = some h') (hm : bnd T n (some m) = some q) (hab : Nat.ble a h' = true) (hbn : Nat.ble h' q = true) (hq : Nat.ble q n = true) :
    Yields P B T H o none := fun φ ρ w h _ => by
  obtain ⟨l, h1, h2, h3⟩ := ops_ok h hx
  obtain ⟨el, i, k1, k2, k3⟩ := stSlice_ok hs
  have hab := Nat.le_of_ble_eq_true hab
  have hbn := Nat.le_of_ble_eq_true hbn
  have hq := Nat.le_of_ble_eq_true hq
  have hbs : (Instr.sliceBounds true n (l.c - d) (lo.map ρ) (hi.map ρ) ((some m).map ρ)).run P w = .ok (a, h', q) w := by
    rcases bnd_ok h hm with ⟨e1, _⟩ | ⟨r, ke, e1, m2⟩
    · cases e1
    cases e1
    rcases bnd_ok h hb with ⟨rfl, _⟩ | ⟨r', kf, rfl, n2⟩
    · cases hi'
    rcases bnd_ok h ha with ⟨rfl, rfl⟩ | ⟨r'', kg, rfl, p2⟩
    · simp [Instr.sliceBounds, m2, n2, run_bound ke q (l.c - d) _ (by omega), run_bound kf h' q _ hbn, go_sem]
    · simp [Instr.sliceBounds, m2, n2, p2, run_bound ke q (l.c - d) _ (by omega), run_bound kf h' q _ hbn, run_bound kg a h' _ hab, go_sem]
  have hr := run_sliceAt k1 k2 (some (⟨l.b, l.s + (if l.c ≤ d then e else p), none⟩ : Addr)) n (l.c - d) a h' q _ _ _ hbs
  refine ⟨.slice (if q = a then some (⟨l.b, l.s + (if l.c ≤ d then e else p), none⟩ : Addr) else (some (⟨l.b, l.s + (if l.c ≤ d then e else p), none⟩ : Addr)).map (·.add (a * i.size))) (h' - a) (q - a), fun tv e1 => (by cases e1), ?_⟩
  simp only [execOp, ho, h3, Sem.run_bind, hr, Result.andThen_ok]
  rfl
/-- a call of a builtin function -/
theorem run_builtin {ρ : Operand → Value} {bi : Builtin} {args : Array Operand} {ats : Array TypeId} (ho : o.op = .call { callee := .builtin bi, args := args, argTypes := ats }) (w : World) :
    (execOp ρ o).run P w = (builtin bi ats o.type (args.map fun | .const _ => true | _ => false) (args.map ρ)).run P w := by
  simp only [execOp, ho, resolve]
  rfl
noncomputable def lenC : CV → Option Nat
  | .s _ _ _ n _ => some n
  | .k (.slice none n _) => some n
  | _ => none
theorem yields_len {t : TypeId} {x : Operand} {z n : Nat} {c : CV} (ho : o.op = .call { callee := .builtin .len, args := #[x], argTypes := #[t] }) (hs : stSlice P t = some z) (hx : opd T x = some (.s (.c c))) (hn : lenC c = some n) : Yields P B T H o (some (.s (.c (.k (.int .i64 n))))) := fun φ ρ w h _ => by
  obtain ⟨el, i, k1, k2, k3⟩ := stSlice_ok hs
  have h1 := h _ _ hx
  have h2 : ∃ a q, ρ x = .slice a n q := by
    unfold lenC at hn
    split at hn
    · cases hn
      simp only [tvV, svV, cvV] at h1
      split at h1
      · split at h1
        · injection h1 with h1
          exact ⟨_, _, h1.symm⟩
        · cases h1
      · cases h1
    · cases hn
      simp only [tvV, svV, cvV] at h1
      injection h1 with h1
      exact ⟨_, _, h1.symm⟩
    · cases hn
  obtain ⟨a, q, h2⟩ := h2
  refine ⟨.int .i64 n, fun tv e => by cases e; rfl, ?_⟩
  rw [run_builtin ho]
  simp [builtin, Builtin.len_, run_underlying k1, h2, goInt, go_sem]
theorem yields_lenT {t : TypeId} {x : Operand} {s : ByteArray} (ho : o.op = .call { callee := .builtin .len, args := #[x], argTypes := #[t] }) (hs : P.underlying t = some .string) (hx : opk T x = some (.string s)) : Yields P B T H o (some (.s (.c (.k (.int .i64 s.size))))) := fun φ ρ w h _ => by
  have h1 := opk_ok h hx
  refine ⟨.int .i64 s.size, fun tv e => by cases e; rfl, ?_⟩
  rw [run_builtin ho]
  simp [builtin, Builtin.len_, run_underlying hs, h1, goInt, go_sem]
noncomputable def opm (T : Tm) (x : Operand) : Option Bn := match opd T x with
  | some (.s (.c (.m b))) => some b
  | _ => none
noncomputable def isEmap (H : Hp) (b : Bn) : Bool := match H.t.get b with
  | some (.map []) => true
  | _ => false
theorem opm_ok {φ : Ren} {ρ : Operand → Value} {w : World} (h : EvR φ T ρ) (sr : SR P B φ H w) {x : Operand} {b : Bn} {l : List (List CV × CV)} (hx : opm T x = some b) (hb : H.mp b = some l) : ∃ q es clock, φ b = some q ∧ ρ x = .map (some q.b) ∧ w.heap[q.b]? = some (.map es clock) ∧ mapR φ clock l es.toList := by
  unfold opm at hx
  split at hx
  · rename_i e
    cases hx
    have h1 := h _ _ e
    obtain ⟨q, es, clock, k1, k2, k3, _⟩ := sr.map hb
    simp only [tvV, svV, cvV, k1] at h1
    injection h1 with h1
    exact ⟨q, es, clock, k1, h1.symm, k2, k3⟩
  · cases hx
theorem yields_lenM {t k e : TypeId} {x : Operand} {b : Bn} {l : List (List CV × CV)} (ho : o.op = .call { callee := .builtin .len, args := #[x], argTypes := #[t] }) (hs : P.underlying t = some (.map k e)) (hx : opm T x = some b) (hb : H.mp b = some l) : Yields P B T H o (some (.s (.c (.k (.int .i64 l.length))))) := fun φ ρ w h sr => by
  obtain ⟨q, es, clock, _, h1, h2, h3⟩ := opm_ok h sr hx hb
  have h4 : es.size = l.length := by rw [← mapR.len h3, Array.length_toList]
  refine ⟨.int .i64 l.length, fun tv e => by cases e; rfl, ?_⟩
  rw [run_builtin ho]
  simp [builtin, Builtin.len_, run_underlying hs, h1, h2, h4, goInt, getObj, Sem.run, go_sem]
theorem yields_min {t t' : TypeId} {x y : Operand} {k k' : IntKind} {a b : Int} (ho : o.op = .call { callee := .builtin .min, args := #[x, y], argTypes := #[t, t'] }) (hx : opk T x = some (.int k a)) (hy : opk T y = some (.int k' b)) : Yields P B T H o (some (.s (.c (.k (.int k (if b < a then b else a)))))) := fun φ ρ w h _ => by
  have h1 := opk_ok h hx
  have h2 := opk_ok h hy
  refine ⟨.int k (if b < a then b else a), fun tv e => by cases e; rfl, ?_⟩
  rw [run_builtin ho]
  simp [builtin, Builtin.min_, Builtin.min2, h1, h2, go_sem]
theorem yields_max {t t' : TypeId} {x y : Operand} {k k' : IntKind} {a b : Int} (ho : o.op = .call { callee := .builtin .max, args := #[x, y], argTypes := #[t, t'] }) (hx : opk T x = some (.int k a)) (hy : opk T y = some (.int k' b)) : Yields P B T H o (some (.s (.c (.k (.int k (if a < b then b else a)))))) := fun φ ρ w h _ => by
  have h1 := opk_ok h hx
  have h2 := opk_ok h hy
  refine ⟨.int k (if a < b then b else a), fun tv e => by cases e; rfl, ?_⟩
  rw [run_builtin ho]
  simp [builtin, Builtin.max_, Builtin.max2, h1, h2, go_sem]
/-- the lesser one, the greater one, of numbers that are not known -/
theorem yields_minU {t t' : TypeId} {x y : Operand} {u v : CV} {k : IntKind} {a b c d : Int} {r : Bool} (ho : o.op = .call { callee := .builtin .min, args := #[x, y], argTypes := #[t, t'] }) (hx : opd T x = some (.s (.c u))) (hy : opd T y = some (.s (.c v))) (h1 : rng H u = some (k, a, b)) (h2 : rng H v = some (k, c, d)) (hr : cmpR .lss c d a b = some r) : Yields P B T H o (some (.s (.c (if r then v else u)))) := fun φ ρ w h sr => by
  have e1 := opc_ok h hx
  have e2 := opc_ok h hy
  obtain ⟨i, k1, k2, k3⟩ := rng_ok sr h1 e1
  obtain ⟨j, m1, m2, m3⟩ := rng_ok sr h2 e2
  have hd := cmpR_ok (k := k) hr m2 m3 k2 k3
  simp only [binI] at hd
  injection hd with hd
  injection hd with hd
  refine ⟨if r then ρ y else ρ x, fun tv e => by cases e; cases r <;> assumption, ?_⟩
  rw [run_builtin ho]
  cases r with
  | true =>
    have hd := of_decide_eq_true hd
    simp [builtin, Builtin.min_, Builtin.min2, k1, m1, hd, go_sem]
  | false =>
    have hd := of_decide_eq_false hd
    simp [builtin, Builtin.min_, Builtin.min2, k1, m1, hd, go_sem]
theorem yields_maxU {t t' : TypeId} {x y : Operand} {u v : CV} {k : IntKind} {a b c d : Int} {r : Bool} (ho : o.op = .call { callee := .builtin .max, args := #[x, y], argTypes := #[t, t'] }) (hx : opd T x = some (.s (.c u))) (hy : opd T y = some (.s (.c v))) (h1 : rng H u = some (k, a, b)) (h2 : rng H v = some (k, c, d)) (hr : cmpR .lss a b c d = some r) : Yields P B T H o (some (.s (.c (if r then v else u)))) := fun φ ρ w h sr => by
  have e1 := opc_ok h hx
  have e2 := opc_ok h hy
  obtain ⟨i, k1, k2, k3⟩ := rng_ok sr h1 e1
  obtain ⟨j, m1, m2, m3⟩ := rng_ok sr h2 e2
  have hd := cmpR_ok (k := k) hr k2 k3 m2 m3
  simp only [binI] at hd
  injection hd with hd
  injection hd with hd
  refine ⟨if r then ρ y else ρ x, fun tv e => by cases e; cases r <;> assumption, ?_⟩
  rw [run_builtin ho]
  cases r with
  | true =>
    have hd := of_decide_eq_true hd
    simp [builtin, Builtin.max_, Builtin.max2, k1, m1, hd, go_sem]
  | false =>
    have hd := of_decide_eq_false hd
    simp [builtin, Builtin.max_, Builtin.max2, k1, m1, hd, go_sem]
/-- where they may be the same, the other one is as good -/
theorem yields_minE {t t' : TypeId} {x y : Operand} {u v : CV} {k : IntKind} {a b c d : Int} (ho : o.op = .call { callee := .builtin .min, args := #[x, y], argTypes := #[t, t'] }) (hx : opd T x = some (.s (.c u))) (hy : opd T y = some (.s (.c v))) (h1 : rng H u = some (k, a, b)) (h2 : rng H v = some (k, c, d)) (hr : cmpR .leq c d a b = some true) : Yields P B T H o (some (.s (.c v))) := fun φ ρ w h sr => by
  have e1 := opc_ok h hx
  have e2 := opc_ok h hy
  obtain ⟨i, k1, k2, k3⟩ := rng_ok sr h1 e1
  obtain ⟨j, m1, m2, m3⟩ := rng_ok sr h2 e2
  have hd := cmpR_ok (k := k) hr m2 m3 k2 k3
  simp only [binI] at hd
  injection hd with hd
  injection hd with hd
  have hd := of_decide_eq_true hd
  refine ⟨ρ y, fun tv e => by cases e; assumption, ?_⟩
  rw [run_builtin ho]
  by_cases hlt : j < i
  · simp [builtin, Builtin.min_, Builtin.min2, k1, m1, hlt, go_sem]
  · have : i = j := by omega
    subst this
    simp [builtin, Builtin.min_, Builtin.min2, k1, m1, go_sem]
theorem yields_maxE {t t' : TypeId} {x y : Operand} {u v : CV} {k : IntKind} {a b c d : Int} (ho : o.op = .call { callee := .builtin .max, args := #[x, y], argTypes := #[t, t'] }) (hx : opd T x = some (.s (.c u))) (hy : opd T y = some (.s (.c v))) (h1 : rng H u = some (k, a, b)) (h2 : rng H v = some (k, c, d)) (hr : cmpR .leq a b c d = some true) : Yields P B T H o (some (.s (.c v))) := fun φ ρ w h sr => by
  have e1 := opc_ok h hx
  have e2 := opc_ok h hy
  obtain ⟨i, k1, k2, k3⟩ := rng_ok sr h1 e1
  obtain ⟨j, m1, m2, m3⟩ := rng_ok sr h2 e2
  have hd := cmpR_ok (k := k) hr k2 k3 m2 m3
  simp only [binI] at hd
  injection hd with hd
  injection hd with hd
  have hd := of_decide_eq_true hd
  refine ⟨ρ y, fun tv e => by cases e; assumption, ?_⟩
  rw [run_builtin ho]
  by_cases hlt : i < j
  · simp [builtin, Builtin.max_, Builtin.max2, k1, m1, hlt, go_sem]
  · have : i = j := by omega
    subst this
    simp [builtin, Builtin.max_, Builtin.max2, k1, m1, go_sem]
theorem yields_convI {s t : TypeId} {x : Operand} {k k' : IntKind} {n : Int} {d : TypeDesc} (ho : o.op = .convert s t x) (hs : P.underlying s = some d) (ht : P.underlying t = some (.int k)) (hx : opk T x = some (.int k' n)) : Yields P B T H o (some (.s (.c (.k (.int k (k.wrap n)))))) := fun φ ρ w h _ => by
  have h1 := opk_ok h hx
  refine ⟨.int k (k.wrap n), fun tv e => by cases e; rfl, ?_⟩
  simp [execOp, ho, convert, run_underlying hs, run_underlying ht, h1, Conv.intToInt, go_sem]
end
end Ev
end Go.Proofs.YtajhndakkaniaaaGreatDoor
/- An evaluator for closed runs: functions, interfaces, structs that are built, parts of values. -/
namespace Go.Proofs.YtajhndakkaniaaaGreatDoor
open Go

namespace Ev
noncomputable def oppts (T : Tm) : List Operand → Option (List (Bn × Nat))
  | [] => some []
  | x :: r => match opp T x, oppts T r with
    | some p, some l => some (p :: l)
    | _, _ => none
/-- is it no interface? -/
noncomputable def stPlain (P : Program) (t : TypeId) : Bool := match und P t with
  | some (.interface _) => false
  | some _ => true
  | none => false
/-- the fields of a struct: where, and how many cells -/
noncomputable def placesOf (P : Program) : List Field → Option (List (Nat × Nat))
  | [] => some []
  | f :: r => match inf P f.type, placesOf P r with
    | some i, some l => some ((f.offset, i.size) :: l)
    | _, _ => none
noncomputable def zeroCs (P : Program) (t : TypeId) : Option (List CV) := match inf P t with
  | some i => match i.zero with
    | some v => valCVs v.cells.toList
    | none => none
  | none => none
noncomputable def stBuild (P : Program) (t : TypeId) : Option (List CV × List (Nat × Nat)) := match und P t with
  | some (.struct fs) => match zeroCs P t, placesOf P fs.toList with
    | some z, some l => some (z, l)
    | _, _ => none
  | _ => none
noncomputable def opsv (T : Tm) (x : Operand) : Option SV := match opd T x with
  | some (.s v) => some v
  | _ => none
noncomputable def fillA (pl : List (Nat × Nat)) (T : Tm) (cells : List CV) : List (Nat × Operand) → Option (List CV)
  | [] => some cells
  | (i, x) :: r => match pl[i]?, opsv T x with
    | some (off, size), some v => if Nat.beq v.cells.length size then match stN cells off v.cells with
        | some c => fillA pl T c r
        | none => none
      else none
    | _, _ => none
section
variable {P : Program} {B : Nat} {T : Tm} {H : Hp} {o : Oper}
theorem oppts_ok {φ : Ren} {ρ : Operand → Value} (h : EvR φ T ρ) : ∀ {xs : List Operand} {l : List (Bn × Nat)}, oppts T xs = some l → ptrsV φ l = some (xs.map ρ)
  | [], l, hx => by cases hx; rfl
  | x :: r, l, hx => by
    simp only [oppts] at hx
    cases h1 : opp T x with
    | none => rw [h1] at hx; cases hx
    | some p =>
      cases h2 : oppts T r with
      | none => rw [h1, h2] at hx; cases hx
      | some m =>
        rw [h1, h2] at hx
        cases hx
        obtain ⟨l, k1, k2⟩ := opp_ok h (b := p.1) (q := p.2) h1
        simp only [ptrsV, ptrV, k1, oppts_ok h h2, List.map_cons, k2]
theorem yields_func {f : FuncId} {caps : Array Operand} {l : List (Bn × Nat)} (ho : o.op = .makeFunc (.func f) #[] caps) (hx : oppts T caps.toList = some l) : Yields P B T H o (some (.s (.c (.f f l)))) := fun φ ρ w h _ => by
  refine ⟨.func (.func f) #[] (caps.map ρ), fun tv e => ?_, ?_⟩
  · cases e
    have e2 : (List.map ρ caps.toList).toArray = caps.map ρ := by rw [← Array.toList_map]
    simp only [tvV, svV, cvV, oppts_ok h hx, e2]
  · simp [execOp, ho, Instr.makeFunc, go_sem]
theorem yields_ifp {t : TypeId} {x : Operand} {b : Bn} {q : Nat} (ho : o.op = .makeInterface t x) (hs : stPlain P t = true) (hx : opp T x = some (b, q)) : Yields P B T H o (some (.s (.c (.i t b q)))) := fun φ ρ w h _ => by
  obtain ⟨l, h1, h2⟩ := opp_ok h hx
  refine ⟨.iface t (ρ x), fun tv e => ?_, ?_⟩
  · cases e
    simp only [tvV, svV, cvV, ptrV, h1, h2]
  · unfold stPlain at hs
    simp only [und_eq] at hs
    split at hs
    · cases hs
    · rename_i d n1 e1
      simp only [execOp, ho, Instr.makeInterface, Sem.run_bind, run_underlying e1, Result.andThen_ok]
      rfl
    · cases hs
theorem yields_ifa {t : TypeId} {x : Operand} {l : List CV} (ho : o.op = .makeInterface t x) (hs : stPlain P t = true) (hx : opd T x = some (.s (.a l))) : Yields P B T H o (some (.i t l)) := fun φ ρ w h _ => by
  have h1 := h _ _ hx
  simp only [tvV, svV] at h1
  cases h2 : cvsV φ l with
  | none => rw [h2] at h1; cases h1
  | some vs =>
    rw [h2] at h1
    injection h1 with h1
    refine ⟨.iface t (ρ x), fun tv e => ?_, ?_⟩
    · cases e
      simp only [tvV, h2, h1]
    · unfold stPlain at hs
      simp only [und_eq] at hs
      split at hs
      · cases hs
      · rename_i d n1 e1
        simp only [execOp, ho, Instr.makeInterface, Sem.run_bind, run_underlying e1, Result.andThen_ok]
        rfl
      · cases hs
theorem zeroCs_ok {φ : Ren} {t : TypeId} {z : List CV} (h : zeroCs P t = some z) : ∃ i v, P.info? t = some i ∧ i.zero = some v ∧ cvsV φ z = some v.cells.toList := by
  unfold zeroCs at h
  simp only [inf_eq] at h
  split at h
  · rename_i i h1
    split at h
    · rename_i v h2
      exact ⟨i, v, h1, h2, valCVs_ok h⟩
    · cases h
  · cases h
theorem sv_cells {φ : Ren} {v : SV} {u : Value} (h : svV φ v = some u) (hk : ∀ k, v = .c (.k k) → k.oneCell' = true) : cvsV φ v.cells = some u.cells.toList := by
  cases v with
  | c c =>
    have h1 : u.oneCell' = true := cvV_one h fun k hc => hk k (by rw [hc])
    have h2 : u.cells = #[u] := by cases u <;> first | rfl | cases h1
    rw [h2]
    exact cvsV_mk h rfl
  | a l =>
    simp only [svV] at h
    cases h2 : cvsV φ l with
    | none => rw [h2] at h; cases h
    | some vs =>
      rw [h2] at h
      injection h with h
      subst h
      simpa [SV.cells, Value.cells] using h2
/-- cells that are set one behind the other -/
theorem foldl_set (off : Nat) : ∀ (us : List Value) (j0 : Nat) (c : Array Value), ((us.zipIdx j0).foldl (fun cs p => cs.setIfInBounds (off + p.2) p.1) c).size = c.size ∧ ∀ j, ((us.zipIdx j0).foldl (fun cs p => cs.setIfInBounds (off + p.2) p.1) c)[j]? = if off + j0 ≤ j ∧ j < off + j0 + us.length ∧ j < c.size then us[j - (off + j0)]? else c[j]?
  | [], j0, c => ⟨rfl, fun j => by rw [if_neg (by simp; omega)]; rfl⟩
  | u :: r, j0, c => by
    obtain ⟨h1, h2⟩ := foldl_set off r (j0 + 1) (c.setIfInBounds (off + j0) u)
    simp only [List.zipIdx_cons, List.foldl_cons]
    refine ⟨by rw [h1, Array.size_setIfInBounds], fun j => ?_⟩
    rw [h2, Array.size_setIfInBounds]
    by_cases e1 : off + (j0 + 1) ≤ j ∧ j < off + (j0 + 1) + r.length ∧ j < c.size
    · rw [if_pos e1, if_pos ⟨by omega, by rw [List.length_cons]; omega, e1.2.2⟩, show j - (off + j0) = (j - (off + (j0 + 1))) + 1 by omega]
      rfl
    · rw [if_neg e1, Array.getElem?_setIfInBounds]
      by_cases e2 : off + j0 = j
      · subst e2
        rw [if_pos rfl]
        by_cases e3 : off + j0 < c.size
        · rw [if_pos e3, if_pos ⟨by omega, by rw [List.length_cons]; omega, e3⟩, Nat.sub_self]
          rfl
        · rw [if_neg e3, if_neg (by omega)]
          exact (Array.getElem?_eq_none (by omega)).symm
      · rw [if_neg e2, if_neg (by rw [List.length_cons]; omega)]
theorem fillA_ok {φ : Ren} {ρ : Operand → Value} (h : EvR φ T ρ) (pl : List (Nat × Nat)) (place : Nat → Option (Nat × Nat)) (hp : ∀ i q, pl[i]? = some q → place i = some q) : ∀ (parts : List (Nat × Operand)) (cells r : List CV) (c : Array Value), fillA pl T cells parts = some r → cvsV φ cells = some c.toList → (∀ x ∈ parts, ∀ v k, opsv T x.2 = some v → v = .c (.k k) → k.oneCell' = true) →
    ∃ c', Instr.fill place c (parts.map fun (i, x) => (i, ρ x)) = some c' ∧ cvsV φ r = some c'.toList ∧ c'.size = c.size
  | [], cells, r, c, hf, hc, _ => by cases hf; exact ⟨c, rfl, hc, rfl⟩
  | (i, x) :: q, cells, r, c, hf, hc, hk => by
    simp only [fillA] at hf
    cases h1 : pl[i]? with
    | none => rw [h1] at hf; cases hf
    | some os =>
      obtain ⟨off, size⟩ := os
      cases h2 : opsv T x with
      | none => rw [h1, h2] at hf; cases hf
      | some v =>
        rw [h1, h2] at hf
        simp only at hf
        split at hf
        · rename_i h3
          have h3 := Nat.eq_of_beq_eq_true h3
          cases h4 : stN cells off v.cells with
          | none => rw [h4] at hf; cases hf
          | some cs =>
            rw [h4] at hf
            simp only at hf
            have h5 : svV φ v = some (ρ x) := by
              unfold opsv at h2
              split at h2
              · rename_i e
                cases h2
                exact h _ _ e
              · cases h2
            have h6 := sv_cells h5 fun k hv => hk (i, x) List.mem_cons_self v k h2 hv
            have h7 := cvsV_len h6
            have h8 := cvsV_len hc
            obtain ⟨k1, k2, k3⟩ := stN_get h4
            obtain ⟨f1, f2⟩ := foldl_set off (ρ x).cells.toList 0 c
            have hsz : (ρ x).cells.size = size := by
              have : (ρ x).cells.toList.length = v.cells.length := h7
              simp at this
              omega
            have hcl : c.size = cells.length := by simpa using h8
            have hfold : (ρ x).cells.zipIdx.foldl (fun cs p => cs.setIfInBounds (off + p.2) p.1) c = ((ρ x).cells.toList.zipIdx).foldl (fun cs p => cs.setIfInBounds (off + p.2) p.1) c := by
              rw [← Array.foldl_toList]
              simp
            have hnew : cvsV φ cs = some (((ρ x).cells.toList.zipIdx).foldl (fun cs p => cs.setIfInBounds (off + p.2) p.1) c).toList := by
              refine cvsV_of (by simp only [Array.length_toList]; rw [f1]; omega) fun j cv hj => ?_
              rw [k3] at hj
              rw [Array.getElem?_toList, f2]
              have hl : (ρ x).cells.toList.length = v.cells.length := h7
              by_cases e1 : off ≤ j ∧ j < off + v.cells.length
              · rw [if_pos e1] at hj
                rw [if_pos ⟨by omega, by omega, by omega⟩]
                obtain ⟨u, m1, m2⟩ := cvsV_get h6 _ cv hj
                exact ⟨u, by simpa using m1, m2⟩
              · rw [if_neg e1] at hj
                rw [if_neg (by omega)]
                obtain ⟨u, m1, m2⟩ := cvsV_get hc _ cv hj
                exact ⟨u, by simpa using m1, m2⟩
            obtain ⟨c', m1, m2, m3⟩ := fillA_ok h pl place hp q cs r _ hf hnew fun y hy => hk y (List.mem_cons_of_mem _ hy)
            refine ⟨c', ?_, m2, by rw [m3, f1]⟩
            simp only [List.map_cons, Instr.fill, hp i _ h1]
            rw [if_neg (by simp only [hsz]; simp; omega)]
            rw [← hfold] at m1
            exact m1
        · cases hf
noncomputable def plS (f : Field) : Sem (Nat × Nat) := do pure (f.offset, ← sizeOf f.type)
theorem run_plS {w : World} {f : Field} {i : TypeInfo} (h : P.info? f.type = some i) : (plS f).run P w = .ok (f.offset, i.size) w := by
  simp [plS, sizeOf, typeInfo, h, go_sem]
theorem places_ok {w : World} : ∀ {fs : List Field} {l : List (Nat × Nat)}, placesOf P fs = some l → (fs.mapM plS).run P w = .ok l w
  | [], l, h => by cases h; rfl
  | f :: r, l, h => by
    simp only [placesOf, inf_eq] at h
    cases h1 : P.info? f.type with
    | none => rw [h1] at h; cases h
    | some i =>
      cases h2 : placesOf P r with
      | none => rw [h1, h2] at h; cases h
      | some m =>
        rw [h1, h2] at h
        cases h
        have ih := places_ok (w := w) h2
        rw [List.mapM_cons]
        simp only [Sem.run_bind, run_plS h1, Result.andThen_ok, ih]
        rfl
theorem places_arr {w : World} {fs : Array Field} {l : List (Nat × Nat)} (h : placesOf P fs.toList = some l) : (fs.mapM plS).run P w = .ok l.toArray w := by
  rw [Array.mapM_eq_mapM_toList]
  have e : (List.toArray <$> fs.toList.mapM plS : Sem (Array (Nat × Nat))) = (fs.toList.mapM plS >>= fun x => pure x.toArray) := rfl
  rw [e, Sem.run_bind, places_ok h]
  rfl
/-- no part is a row of cells in one cell -/
noncomputable def partsOne (T : Tm) : List (Nat × Operand) → Bool
  | [] => true
  | (_, x) :: r => match opsv T x with
    | some (.c c) => oneC c && partsOne T r
    | _ => partsOne T r
theorem partsOne_ok : ∀ {parts : List (Nat × Operand)}, partsOne T parts = true → ∀ x ∈ parts, ∀ v k, opsv T x.2 = some v → v = .c (.k k) → k.oneCell' = true
  | [], _, x, hx, _, _, _, _ => by cases hx
  | (i, y) :: r, h, x, hx, v, k, hv, hk => by
    simp only [partsOne] at h
    rcases List.mem_cons.1 hx with rfl | hx
    · simp only at hv
      rw [hv, hk] at h
      simp only [Bool.and_eq_true] at h
      have := h.1
      cases k <;> first | rfl | cases this
    · split at h
      · simp only [Bool.and_eq_true] at h
        exact partsOne_ok h.2 x hx v k hv hk
      · exact partsOne_ok h x hx v k hv hk
theorem yields_build {t : TypeId} {parts : Array (Nat × Operand)} {z r : List CV} {pl : List (Nat × Nat)} (ho : o.op = .build t parts) (hs : stBuild P t = some (z, pl)) (hp : partsOne T parts.toList = true) (hf : fillA pl T z parts.toList = some r) : Yields P B T H o (some (.s (.a r))) := fun φ ρ w h _ => by
  unfold stBuild at hs
  simp only [und_eq] at hs
  split at hs
  · rename_i fs e1
    split at hs
    · rename_i z' l' e2 e3
      injection hs with hs
      injection hs with hs1 hs2
      subst hs1
      subst hs2
      obtain ⟨i, v, k1, k2, k3⟩ := zeroCs_ok (φ := φ) e2
      obtain ⟨c', m1, m2, _⟩ := fillA_ok h l' (l'[·]?) (fun _ _ h => h) parts.toList z' r v.cells hf k3 (partsOne_ok hp)
      have hm := places_arr (P := P) (w := w) e3
      refine ⟨.agg c', fun tv e => ?_, ?_⟩
      · cases e
        simp only [tvV, svV, m2]
      · have hz : (zeroValue t).run P w = .ok v w := by simp [zeroValue, typeInfo, k1, k2, go_sem]
        have e4 : (parts.map fun (i, x) => (i, ρ x)).toList = parts.toList.map fun (i, x) => (i, ρ x) := by rw [Array.toList_map]
        have m3 : Instr.fill (l'.toArray[·]?) v.cells ((parts.map fun (i, x) => (i, ρ x)).toList) = some c' := by
          rw [e4]
          simpa using m1
        have hb : (Instr.build t (parts.map fun (i, x) => (i, ρ x))).run P w = .ok (.agg c') w := by
          unfold Instr.build
          rw [Sem.run_bind, hz, Result.andThen_ok, Sem.run_bind, run_underlying e1, Result.andThen_ok]
          simp only
          rw [Sem.run_bind]
          have hm' : Sem.run P (Array.mapM (fun f => do pure (f.offset, ← sizeOf f.type)) fs) w = .ok l'.toArray w := hm
          rw [hm', Result.andThen_ok, m3]
          rfl
        simp only [execOp, ho, Sem.run_bind, hb, Result.andThen_ok]
        rfl
    · cases hs
  · cases hs
end
end Ev
end Go.Proofs.YtajhndakkaniaaaGreatDoor
/- An evaluator for closed runs: parts by number, bytes to a string, an empty map. -/
namespace Go.Proofs.YtajhndakkaniaaaGreatDoor
open Go

namespace Ev
noncomputable def isAggT (P : Program) (t : TypeId) : Option Bool := match und P t with
  | some (.struct _) => some true
  | some (.array _ _) => some true
  | some _ => some false
  | none => none
noncomputable def svOf (t : Bool) (l : List CV) : Option SV := match t with
  | true => some (.a l)
  | false => match l with
    | [c] => some (.c c)
    | _ => none
/-- of an array: how many, the size of one, is it a row -/
noncomputable def stArr (P : Program) (t : TypeId) : Option (Nat × Nat × Bool) := match und P t with
  | some (.array n e) => match inf P e, isAggT P e with
    | some i, some b => some (n, i.size, b)
    | _, _ => none
  | _ => none
noncomputable def opa (T : Tm) (x : Operand) : Option (List CV) := match opd T x with
  | some (.s (.a l)) => some l
  | _ => none
section
variable {P : Program} {B : Nat} {T : Tm} {H : Hp} {o : Oper}
theorem run_isAgg {t : TypeId} {b : Bool} (h : isAggT P t = some b) (w : World) : (isAgg t).run P w = .ok b w := by
  unfold isAggT at h
  simp only [und_eq] at h
  split at h
  · rename_i fs e1
    cases h
    simp [isAgg, run_underlying e1, go_sem]
  · rename_i n e e1
    cases h
    simp [isAgg, run_underlying e1, go_sem]
  · rename_i d n1 n2 e1
    cases h
    simp only [isAgg, Sem.run_bind, run_underlying e1, Result.andThen_ok]
    rfl
  · cases h
theorem opa_ok {φ : Ren} {ρ : Operand → Value} (h : EvR φ T ρ) {x : Operand} {l : List CV} (hx : opa T x = some l) : ∃ vs, ρ x = .agg vs.toArray ∧ cvsV φ l = some vs := by
  unfold opa at hx
  split at hx
  · rename_i e
    cases hx
    have h1 := h _ _ e
    simp only [tvV, svV] at h1
    split at h1
    · rename_i vs h2
      injection h1 with h1
      exact ⟨vs, h1.symm, h2⟩
    · cases h1
  · cases hx
theorem part_ok {φ : Ren} {w : World} {t : TypeId} {i : TypeInfo} {b : Bool} {l r : List CV} {vs : List Value} {off : Nat} {v : SV} (hi : P.info? t = some i) (hb : isAggT P t = some b) (hv : cvsV φ l = some vs) (hr : ldN l off i.size = some r) (hs : svOf b r = some v) : ∃ u, svV φ v = some u ∧ (part t vs.toArray off).run P w = .ok u w := by
  obtain ⟨k1, k2⟩ := ldN_get hr
  have hvl := cvsV_len hv
  have hget : ∀ j, j < i.size → ∃ c u, r[j]? = some c ∧ vs[off + j]? = some u ∧ cvV φ c = some u := fun j hj => by
    have h1 : r[j]? = some (r[j]'(by omega)) := List.getElem?_eq_getElem (by omega)
    obtain ⟨u, m1, m2⟩ := cvsV_get hv (off + j) _ (by rw [← k2 j hj]; exact h1)
    exact ⟨_, u, h1, m1, m2⟩
  cases b with
  | true =>
    cases hs
    have hle : i.size = 0 ∨ off + i.size ≤ vs.length := by
      rcases Nat.eq_zero_or_pos i.size with h0 | h0
      · exact .inl h0
      · obtain ⟨c, u, _, m1, _⟩ := hget (i.size - 1) (by omega)
        have := (List.getElem?_eq_some_iff.1 m1).1
        exact .inr (by omega)
    have hcs : cvsV φ r = some (vs.toArray.extract off (off + i.size)).toList := by
      refine cvsV_of ?_ fun j c hj => ?_
      · simp
        omega
      · have hj' : j < i.size := by
          have := (List.getElem?_eq_some_iff.1 hj).1
          omega
        obtain ⟨c', u, m1, m2, m3⟩ := hget j hj'
        rw [hj] at m1
        cases m1
        refine ⟨u, ?_, m3⟩
        have : j < vs.length - off := by
          have := (List.getElem?_eq_some_iff.1 m2).1
          omega
        simp only [List.extract_toArray, List.extract_eq_take_drop]
        rw [List.getElem?_take_of_lt (by omega), List.getElem?_drop]
        exact m2
    refine ⟨.agg (vs.toArray.extract off (off + i.size)), by simp only [svV, hcs], ?_⟩
    simp only [part, Sem.run_bind, run_isAgg hb, Result.andThen_ok, sizeOf, typeInfo]
    simp [hi, go_sem]
  | false =>
    unfold svOf at hs
    simp only at hs
    split at hs
    · rename_i c
      cases hs
      have h1 : i.size = 1 := by simpa using k1.symm
      obtain ⟨c', u, m1, m2, m3⟩ := hget 0 (by omega)
      cases m1
      refine ⟨u, m3, ?_⟩
      simp only [part, Sem.run_bind, run_isAgg hb, Result.andThen_ok]
      rw [Nat.add_zero] at m2
      simp [m2, go_sem]
    · cases hs
theorem yields_index {t : TypeId} {x ix : Operand} {n z k : Nat} {b : Bool} {i : Int} {l r : List CV} {v : SV} (ho : o.op = .index t x ix) (hs : stArr P t = some (n, z, b)) (hx : opa T x = some l) (hi : opi T ix = some i) (hk : natOf i = some k) (hlt : Nat.blt k n = true) (hr : ldN l (k * z) z = some r) (hv : svOf b r = some v) : Yields P B T H o (some (.s v)) := fun φ ρ w h _ => by
  obtain ⟨vs, h1, h2⟩ := opa_ok h hx
  obtain ⟨kd, h4⟩ := opi_ok h hi
  have h5 := natOf_ok hk
  have h6 : k < n := Nat.blt_eq.mp hlt
  subst h5
  unfold stArr at hs
  simp only [inf_eq, und_eq] at hs
  split at hs
  · rename_i n' e e1
    split at hs
    · rename_i inf b' e2 e3
      injection hs with hs
      injection hs with hs1 hs
      injection hs with hs2 hs3
      subst hs1
      subst hs2
      subst hs3
      obtain ⟨u, m1, m2⟩ := part_ok (w := w) e2 e3 h2 hr hv
      refine ⟨u, fun tv q => ?_, ?_⟩
      · cases q
        exact m1
      · have h7 : (k : Int) < (n' : Int) := by omega
        have hb : (Instr.index t (.agg vs.toArray) (.int kd k)).run P w = .ok u w := by
          unfold Instr.index
          rw [Sem.run_bind]
          simp only [asIntOf]
          show (Sem.run P (pure (kd, (k : Int)) : Sem (IntKind × Int)) w).andThen _ = _
          rw [show Sem.run P (pure (kd, (k : Int)) : Sem (IntKind × Int)) w = .ok (kd, (k : Int)) w from rfl, Result.andThen_ok, Sem.run_bind, run_underlying e1, Result.andThen_ok]
          simp only
          rw [if_pos ⟨by omega, h7⟩, Sem.run_bind]
          have hsz : (sizeOf e).run P w = .ok inf.size w := by simp [sizeOf, typeInfo, e2, go_sem]
          rw [hsz, Result.andThen_ok, Int.toNat_natCast]
          exact m2
        simp only [execOp, ho, h1, h4, Sem.run_bind, hb, Result.andThen_ok]
        rfl
    · cases hs
  · cases hs
theorem yields_indexT {t : TypeId} {x ix : Operand} {k : Nat} {i : Int} {s : ByteArray} {b : UInt8} (ho : o.op = .index t x ix) (hs : P.underlying t = some .string) (hx : opk T x = some (.string s)) (hi : opi T ix = some i) (hk : natOf i = some k) (hb : s.data[k]? = some b) : Yields P B T H o (some (.s (.c (.k (.int .u8 b.toNat))))) := fun φ ρ w h _ => by
  have h1 := opk_ok h hx
  obtain ⟨kd, h4⟩ := opi_ok h hi
  have h5 := natOf_ok hk
  subst h5
  have h6 : s[k]? = some b := by
    have h7 : k < s.data.size := (Array.getElem?_eq_some_iff.1 hb).1
    have h8 : k < s.size := h7
    rw [getElem?_pos s k h8]
    congr 1
    exact (Array.getElem?_eq_some_iff.1 hb).2
  refine ⟨.int .u8 b.toNat, fun tv e => by cases e; rfl, ?_⟩
  simp [execOp, ho, h1, h4, Instr.index, asIntOf, run_underlying hs, h6, go_sem]
end
end Ev
end Go.Proofs.YtajhndakkaniaaaGreatDoor
