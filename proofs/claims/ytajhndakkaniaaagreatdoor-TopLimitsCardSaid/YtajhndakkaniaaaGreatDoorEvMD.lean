/- An evaluator for closed runs: copies, marks. -/
import Derived.Test.YtajhndakkaniaaaGreatDoorEvMC
import Derived.Tactics
import Derived.LoopN
namespace Go.Proofs.YtajhndakkaniaaaGreatDoor
open Go

namespace Ev
/-- bytes to bytes, a type of its own -/
noncomputable def stMark (P : Program) (s t : TypeId) : Bool := match und P s with
  | some (.slice e) => match und P e with
    | some (.int .u8) => Nat.beq s t
    | _ => false
  | _ => false
section
variable {P : Program} {B : Nat} {T : Tm} {H : Hp} {o : Oper} {φ : Ren} {w : World}
theorem run_copy {ρ : Operand → Value} {t t' : TypeId} {s x : Operand} (ho : o.op = .call { callee := .builtin .copy, args := #[s, x], argTypes := #[t, t'] }) {v : Value} {w w' : World} (h : (Builtin.copy_ #[t, t'] o.type #[ρ s, ρ x]).run P w = .ok v w') : (execOp ρ o).run P w = .ok (.value v) w' := by
  rw [run_builtin ho]
  have : (#[s, x].map ρ) = #[ρ s, ρ x] := by simp
  simp only [builtin, this, Sem.run_bind, h, Result.andThen_ok]
  rfl
noncomputable def isS : CV → Bool
  | .k (.slice none _ _) => true
  | .s _ _ _ _ _ => true
  | _ => false
theorem len_ok {x : Value} {c : CV} {n : Nat} (h : lenC c = some n) (hx : cvV φ c = some x) : ∃ a q, x = .slice a n q := by
  unfold lenC at h
  split at h
  · cases h
    simp only [cvV] at hx
    split at hx
    · split at hx
      · cases hx
        exact ⟨_, _, rfl⟩
      · cases hx
    · cases hx
  · cases h
    cases hx
    exact ⟨_, _, rfl⟩
  · cases h
/-- nothing is copied -/
theorem does_copy0 {t t' e : TypeId} {s x : Operand} {z by' n m : Nat} {c d : CV} (ho : o.op = .call { callee := .builtin .copy, args := #[s, x], argTypes := #[t, t'] }) (ht : stApp P t = some (e, z, by')) (hs : opd T s = some (.s (.c c))) (hx : opd T x = some (.s (.c d))) (h1 : lenC c = some m) (h2 : lenC d = some n) (h0 : Nat.beq (Nat.min n m) 0 = true) : Does P B T H o (some (.s (.c (.k (.int .i64 0))))) H := fun φ ρ w h sr hB => by
  obtain ⟨i, v, k1, k2, _⟩ := stApp_ok ht
  obtain ⟨a, q, m1⟩ := len_ok h1 (h _ _ hs)
  obtain ⟨b, q', m2⟩ := len_ok h2 (h _ _ hx)
  have h0 := Nat.eq_of_beq_eq_true h0
  refine ⟨.value (.int .i64 0), φ, w, .inl ⟨_, rfl, fun tv q => by cases q; rfl⟩, run_copy ho ?_, Ext.refl sr⟩
  rw [m1, m2]
  cases a <;> cases b <;> simp [Builtin.copy_, run_underlying k1, Builtin.lenOf, Builtin.firstCells, sizeOf, typeInfo, k2, h0, storeCells, loadCells, loadCellsFrom, goInt, go_sem]
theorem does_copy {t t' e : TypeId} {s x : Operand} {z by' : Nat} {y b : Bn} {p d n q p' d' m q' : Nat} {T' T2 : TypeId} {st st2 : Bool} {cs xs cs2 cs' : List CV} (ho : o.op = .call { callee := .builtin .copy, args := #[s, x], argTypes := #[t, t'] }) (ht : stApp P t = some (e, z, by')) (hs : ops' T s = some (b, p', d', m, q')) (hx : ops' T x = some (y, p, d, n, q)) (hn : Nat.blt 0 (Nat.min n m) = true) (hy : H.cells y = some (T', st, cs)) (hr : ldN cs p (Nat.min n m * z) = some xs)
    (hb : H.cells b = some (T2, st2, cs2)) (h1 : xs.all oneC = true) (hst : stN cs2 p' xs = some cs') :
    Does P B T H o (some (.s (.c (.k (.int .i64 (Nat.min n m : Nat)))))) (H.set b (.cells T2 st2 cs')) := fun φ ρ w h sr hB => by
  obtain ⟨i, v, k1, k2, k3, k4, k5, k6, k7⟩ := stApp_ok ht
  have hn : 0 < Nat.min n m := Nat.blt_eq.mp hn
  have hn1 : 0 < n := Nat.lt_of_lt_of_le hn (Nat.min_le_left _ _)
  have hn2 : 0 < m := Nat.lt_of_lt_of_le hn (Nat.min_le_right _ _)
  obtain ⟨l, n1, n2, n3⟩ := ops_ok h hs
  obtain ⟨l2, r1, r2, r3⟩ := ops_ok h hx
  rw [if_neg (by omega)] at n3
  rw [if_neg (by omega)] at r3
  obtain ⟨vs, m2, m3, m4⟩ := row_at sr hy hr r1
  have hst' := stores_ok sr hb hst n1 m2 h1
  have hl := run_firstCells_some (P := P) (w := w) z (Nat.min n m) _ n (l2.c - d) vs m3 m4
  have hsz : (sizeOf e).run P w = .ok z w := by simp [sizeOf, typeInfo, k2, k5, go_sem]
  refine ⟨.value (.int .i64 (Nat.min n m : Nat)), φ, _, .inl ⟨_, rfl, fun tv q => by cases q; rfl⟩, run_copy ho ?_, sr.store hb hst n1 m2⟩
  rw [n3, r3]
  unfold Builtin.copy_
  simp only [List.getElem?_toArray, List.getElem?_cons_zero, List.getElem?_cons_succ]
  rw [Sem.run_bind, run_underlying k1, Result.andThen_ok]
  simp only [Builtin.lenOf, Sem.run_bind, Sem.run_pure, hsz, Result.andThen_ok, hl, hst']
  rfl
theorem freeze_at {b : Nat} {c : Array Value} {T' : TypeId} {fz : Nat × Nat} {st : Bool} (h : w.heap[b]? = some (.cells c T' fz)) (hf : fzOk st fz c.size) : (w.freeze ⟨b, c.size, none⟩ 1).heap[b]? = some (.cells c T' (c.size, c.size + 1)) := by
  unfold World.freeze
  rw [if_neg (by decide)]
  simp only [Array.getElem?_modify, h]
  rcases hf with rfl | ⟨_, rfl⟩
  · simp
  · simp
theorem freeze_other {b b' n k : Nat} (h : b' ≠ b) : (w.freeze ⟨b, n, none⟩ k).heap[b']? = w.heap[b']? := by
  unfold World.freeze
  split
  · rfl
  · simp only [Array.getElem?_modify]
    rw [if_neg (fun e => h e.symm)]
theorem mark_ok (h : SR P B φ H w) {x : Bn} {T' : TypeId} {st : Bool} {cs : List CV} {l : Loc} {c : Array Value} {fz : Nat × Nat} (hx : H.cells x = some (T', st, cs)) (hl : φ x = some l) (hc : w.heap[l.b]? = some (.cells c T' fz)) :
    Ext P B φ H w φ (H.set x (.cells T' true cs)) (w.freeze ⟨l.b, c.size, none⟩ 1) := by
  obtain ⟨l', c', fz', i, h1, h2, h3, h4, h5, h6, h7, h8⟩ := h.block hx
  rw [hl] at h1
  cases h1
  rw [hc] at h2
  cases h2
  have hget := Hp.cells_get hx
  have old : ∀ y q, y ≠ x → (H.set x (.cells T' true cs)).t.get y = some q → H.t.get y = some q := fun y q hne hy => by
    rw [← hy]
    exact (Tr.get_other _ _ _ _ hne).symm
  have new : ∀ q, (H.set x (.cells T' true cs)).t.get x = some q → q = .cells T' true cs := fun q hq => by
    have : some (AO.cells T' true cs) = some q := (Tr.get_upd _ _ _).symm.trans hq
    cases this
    rfl
  have any : ∀ y q, (H.set x (.cells T' true cs)).t.get y = some q → ∃ q', H.t.get y = some q' := fun y q hy => by
    by_cases e : y = x
    · rw [e]; exact ⟨_, hget⟩
    · exact ⟨q, old y q e hy⟩
  have hsz : (w.freeze ⟨l.b, c.size, none⟩ 1).heap.size = w.heap.size := by simp [World.freeze]
  refine ⟨Le.refl _, ⟨fun y q hy => ?_, fun y y' q q' k k' hy hy' hk hk' e => ?_, h.fresh⟩, Nat.le_of_eq hsz.symm, fun b _ hn => ?_, fun y q k hy hk => ?_, rfl, rfl, rfl, Nat.le_refl _⟩
  · by_cases e : y = x
    · subst e
      rw [new q hy]
      exact ⟨l, _, hl, freeze_at hc h6, ⟨c, _, i, rfl, h3, h4, h5, .inr ⟨rfl, rfl⟩, h7⟩, h8⟩
    · obtain ⟨k, obj, n1, n2, n3, n4⟩ := h.live y q (old y q e hy)
      refine ⟨k, obj, n1, ?_, n3, n4⟩
      rw [freeze_other fun e2 => e (h.inj y x _ _ k l (old y q e hy) hget n1 hl e2)]
      exact n2
  · obtain ⟨p, hp⟩ := any y q hy
    obtain ⟨p', hp'⟩ := any y' q' hy'
    exact h.inj y y' p p' k k' hp hp' hk hk' e
  · exact freeze_other fun e => hn x _ l hget hl e.symm
  · obtain ⟨p, hp⟩ := any y q hy
    exact .inl ⟨y, p, k, hp, hk, rfl⟩
theorem does_mark {s t : TypeId} {x : Operand} {b : Bn} {p d n q : Nat} {T' : TypeId} {st : Bool} {cs : List CV} (ho : o.op = .convert s t x) (ht : stMark P s t = true) (hx : ops' T x = some (b, p, d, n, q)) (hb : H.cells b = some (T', st, cs)) :
    Does P B T H o (some (.s (.c (.s b p d n q)))) (H.set b (.cells T' true cs)) := fun φ ρ w h sr hB => by
  obtain ⟨l, n1, n2, n3⟩ := ops_ok h hx
  obtain ⟨l', c, fz, i, h1, h2, h3, h4, h5, h6, h7, h8⟩ := sr.block hb
  rw [n1] at h1
  cases h1
  unfold stMark at ht
  simp only [und_eq] at ht
  split at ht
  · rename_i e e1
    split at ht
    · rename_i e2
      have ht := Nat.eq_of_beq_eq_true ht
      subst ht
      refine ⟨.value (ρ x), φ, _, .inl ⟨_, rfl, fun tv q' => ?_⟩, ?_, mark_ok sr hb n1 h2⟩
      · cases q'
        simp only [tvV, svV, cvV, n1]
        rw [if_pos (by omega), n3]
      · have hsh : w.shape? l.b = some (T', c.size) := by simp [World.shape?, h2]
        simp [execOp, ho, n3, convert, run_underlying e1, run_underlying e2, markStringish, hsh, go_sem]
    · cases ht
  · cases ht
end
end Ev
end Go.Proofs.YtajhndakkaniaaaGreatDoor
/- An evaluator for closed runs: calls. -/
namespace Go.Proofs.YtajhndakkaniaaaGreatDoor
open Go

namespace Ev
/-- a function that has a body -/
noncomputable def Good (P : Program) (f : FuncId) : Prop := ∃ fn c, P.funcs[f]? = some fn ∧ fn.body = some c ∧ (fn.name == "runtime.NumGoroutine") = false
noncomputable def Enters (P : Program) (B : Nat) (T : Tm) (H : Hp) (o : Oper) (f : FuncId) (l : List TV) : Prop :=
  ∀ (φ : Ren) (ρ : Operand → Value) (w : World), EvR φ T ρ → SR P B φ H w → ∃ args : Array Value, tvsV φ l = some args.toList ∧ (execOp ρ o).run P w = .ok (.enter f args) w
noncomputable def capTV : List (Bn × Nat) → List TV
  | [] => []
  | (b, q) :: r => .s (.c (.p b q)) :: capTV r
inductive MK where
  | ptr (f : FuncId)
  | emb (f : FuncId) (off : Nat)
  | agg (f : FuncId)
noncomputable def stMeth (P : Program) (t : TypeId) (name : String) : Option MK := match inf P t with
  | some info => match info.methods.find? (·.name == name) with
    | some m => match m.func with
      | some (f, true) => match m.path.toList with
        | [] => match und P t with
          | some (.pointer _) => some (.ptr f)
          | _ => none
        | [s] => match s.deref, und P s.struct with
          | true, some (.struct fs) => match fs[s.index]? with
            | some fl => match inf P fl.type, und P fl.type with
              | some i, some (.pointer _) => if Nat.beq i.size 0 then none else some (.emb f fl.offset)
              | _, _ => none
            | none => none
          | _, _ => none
        | _ => none
      | some (f, false) => match m.path.toList with
        | [] => match und P t with
          | some (.struct _) => some (.agg f)
          | _ => none
        | _ => none
      | none => none
    | none => none
  | none => none
section
variable {P : Program} {B : Nat} {T : Tm} {H : Hp} {o : Oper} {φ : Ren} {w : World}
theorem run_callFunc {f : FuncId} (h : Good P f) (args : Array Value) (w : World) : (callFunc f args).run P w = .ok (.enter f args) w := by
  obtain ⟨fn, c, h1, h2, h3⟩ := h
  simp [callFunc, h1, h2, go_sem]
  exact beq_eq_false_iff_ne.1 h3
theorem capTV_ok : ∀ {l : List (Bn × Nat)} {vs : List Value}, ptrsV φ l = some vs → tvsV φ (capTV l) = some vs
  | [], vs, h => by cases h; rfl
  | (b, q) :: r, vs, h => by
    simp only [ptrsV] at h
    cases h1 : ptrV φ b q with
    | none => rw [h1] at h; cases h
    | some v =>
      cases h2 : ptrsV φ r with
      | none => rw [h1, h2] at h; cases h
      | some m =>
        rw [h1, h2] at h
        cases h
        simp only [capTV, tvsV, tvV, svV, cvV, h1, capTV_ok h2]
theorem tvsV_app : ∀ {l m : List TV} {vs us : List Value}, tvsV φ l = some vs → tvsV φ m = some us → tvsV φ (l ++ m) = some (vs ++ us)
  | [], m, vs, us, h, k => by cases h; exact k
  | x :: r, m, vs, us, h, k => by
    simp only [tvsV] at h
    cases h1 : tvV φ x with
    | none => rw [h1] at h; cases h
    | some v =>
      cases h2 : tvsV φ r with
      | none => rw [h1, h2] at h; cases h
      | some q =>
        rw [h1, h2] at h
        cases h
        simp only [List.cons_append, tvsV, h1, tvsV_app h2 k]
theorem enters_value {x : Operand} {args : Array Operand} {ats : Array TypeId} {g : FuncId} {cs : List (Bn × Nat)} {l : List TV} (ho : o.op = .call { callee := .value x, args := args, argTypes := ats }) (hx : opd T x = some (.s (.c (.f g cs)))) (hl : opds T args.toList = some l) (hg : Good P g) : Enters P B T H o g (l ++ capTV cs) := fun φ ρ w h sr => by
  have h1 := h _ _ hx
  simp only [tvV, svV, cvV] at h1
  cases h2 : ptrsV φ cs with
  | none => rw [h2] at h1; cases h1
  | some caps =>
    rw [h2] at h1
    injection h1 with h1
    have h3 := opds_ok h hl
    refine ⟨(args.toList.map ρ ++ caps).toArray, tvsV_app h3 (capTV_ok h2), ?_⟩
    have e1 : (#[] ++ args.map ρ) ++ caps.toArray = (args.toList.map ρ ++ caps).toArray := by
      apply Array.ext'
      simp
    simp only [execOp, ho, resolve, ← h1, Deferred.ofValue, Sem.run_bind, Sem.run_pure, Result.andThen_ok, invoke, run_callFunc hg, e1]
theorem run_invoke {ρ : Operand → Value} {x : Operand} {name : String} {args : Array Operand} {ats : Array TypeId} {t : TypeId} {v u : Value} {f : FuncId} (ho : o.op = .call { callee := .invoke x name, args := args, argTypes := ats }) (hx : ρ x = .iface t v) (hm : ∀ n, (method (n + 1) t v name).run P w = .ok (f, u) w) (hg : Good P f) : (execOp ρ o).run P w = .ok (.enter f (u :: args.toList.map ρ).toArray) w := by
  have e1 : ((#[Value.iface t v] ++ args.map ρ) : Array Value)[0]? = some (.iface t v) := by
    rw [Array.getElem?_append_left (by simp)]
    rfl
  have e2 : #[u] ++ ((#[Value.iface t v] ++ args.map ρ) : Array Value).extract 1 (#[Value.iface t v] ++ args.map ρ).size = (u :: args.toList.map ρ).toArray := by
    apply Array.ext'
    simp
    exact List.take_of_length_le (by simp)
  have hp : (program).run P w = .ok P w := rfl
  obtain ⟨k, hk⟩ : ∃ k, P.types.size + Made.depth = k + 1 := ⟨P.types.size + (Made.depth - 1), rfl⟩
  simp only [execOp, ho, resolve, hx, Sem.run_bind, Sem.run_pure, Result.andThen_ok, invoke, e1, callMethod, hp, hk, hm, run_callFunc hg, e2]
theorem meth_ptr {t : TypeId} {name : String} {f : FuncId} (h : stMeth P t name = some (.ptr f)) (a : Option Addr) (n : Nat) (w : World) : (method (n + 1) t (.pointer a) name).run P w = .ok (f, .pointer a) w := by
  unfold stMeth at h
  simp only [inf_eq, und_eq] at h
  split at h
  · rename_i info h1
    split at h
    · rename_i m h2
      split at h
      · rename_i f' h3
        split at h
        · rename_i h4
          split at h
          · rename_i e h5
            injection h with h
            injection h with h
            subst h
            simp [method, typeInfo, h1, h2, h3, h4, follow, receiverAt, run_underlying h5, Place.get, go_sem]
          · cases h
        · split at h
          · split at h
            · split at h
              · split at h <;> cases h
              · cases h
            · cases h
          · cases h
        · cases h
      · split at h
        · split at h <;> cases h
        · cases h
      · cases h
    · cases h
  · cases h
theorem meth_agg {t : TypeId} {name : String} {f : FuncId} (h : stMeth P t name = some (.agg f)) (a : Array Value) (n : Nat) (w : World) : (method (n + 1) t (.agg a) name).run P w = .ok (f, .agg a) w := by
  unfold stMeth at h
  simp only [inf_eq, und_eq] at h
  split at h
  · rename_i info h1
    split at h
    · rename_i m h2
      split at h
      · split at h
        · split at h <;> cases h
        · split at h
          · split at h
            · split at h
              · split at h <;> cases h
              · cases h
            · cases h
          · cases h
        · cases h
      · rename_i f' h3
        split at h
        · rename_i h4
          split at h
          · rename_i e h5
            injection h with h
            injection h with h
            subst h
            simp [method, typeInfo, h1, h2, h3, h4, follow, receiverAt, run_underlying h5, Place.get, go_sem]
          · cases h
        · cases h
      · cases h
    · cases h
  · cases h
theorem meth_emb {t : TypeId} {name : String} {f : FuncId} {off : Nat} (h : stMeth P t name = some (.emb f off)) (b s : Nat) {v : Value} (hv : w.cell? ⟨b, s + off, none⟩ = some v) (n : Nat) : (method (n + 1) t (.pointer (some ⟨b, s, none⟩)) name).run P w = .ok (f, v) w := by
  unfold stMeth at h
  simp only [inf_eq, und_eq] at h
  split at h
  · rename_i info h1
    split at h
    · rename_i m h2
      split at h
      · rename_i f' h3
        split at h
        · split at h <;> cases h
        · rename_i s' h4
          split at h
          · rename_i fs h5 h6
            split at h
            · rename_i fl h7
              split at h
              · rename_i i e h8 h9
                split at h
                · cases h
                · rename_i h10
                  injection h with h
                  injection h with h h11
                  subst h
                  subst h11
                  have h12 : i.size ≠ 0 := fun e => h10 (by rw [e]; rfl)
                  have hag : ∀ w, (isAgg fl.type).run P w = .ok false w := fun w => by simp [isAgg, run_underlying h9, go_sem]
                  simp [method, typeInfo, h1, h2, h3, h4, follow, run_underlying h6, h7, h5, asAddr, fieldPlace, sizeOf, h8, h12, addr_add, receiverAt, run_underlying h9, Place.get, loadVar, hag, load, hv, Sem.run, go_sem]
              · cases h
            · cases h
          · cases h
        · cases h
      · split at h
        · split at h <;> cases h
        · cases h
      · cases h
    · cases h
  · cases h
theorem enters_ptr {x : Operand} {name : String} {args : Array Operand} {ats : Array TypeId} {t : TypeId} {b : Bn} {q : Nat} {f : FuncId} {l : List TV} (ho : o.op = .call { callee := .invoke x name, args := args, argTypes := ats }) (hx : opd T x = some (.s (.c (.i t b q)))) (hm : stMeth P t name = some (.ptr f)) (hl : opds T args.toList = some l) (hg : Good P f) : Enters P B T H o f (.s (.c (.p b q)) :: l) := fun φ ρ w h sr => by
  have h1 := h _ _ hx
  simp only [tvV, svV, cvV] at h1
  cases h2 : ptrV φ b q with
  | none => rw [h2] at h1; cases h1
  | some v =>
    rw [h2] at h1
    injection h1 with h1
    have h3 := opds_ok h hl
    have h4 : ∃ a, v = .pointer a := by
      simp only [ptrV] at h2
      split at h2
      · injection h2 with h2
        exact ⟨_, h2.symm⟩
      · cases h2
    obtain ⟨a, rfl⟩ := h4
    exact ⟨_, by simp only [tvsV, tvV, svV, cvV, h2, h3], run_invoke ho h1.symm (fun n => meth_ptr hm a n w) hg⟩
theorem enters_agg {x : Operand} {name : String} {args : Array Operand} {ats : Array TypeId} {t : TypeId} {cs : List CV} {f : FuncId} {l : List TV} (ho : o.op = .call { callee := .invoke x name, args := args, argTypes := ats }) (hx : opd T x = some (.i t cs)) (hm : stMeth P t name = some (.agg f)) (hl : opds T args.toList = some l) (hg : Good P f) : Enters P B T H o f (.s (.a cs) :: l) := fun φ ρ w h sr => by
  have h1 := h _ _ hx
  simp only [tvV] at h1
  cases h2 : cvsV φ cs with
  | none => rw [h2] at h1; cases h1
  | some v =>
    rw [h2] at h1
    injection h1 with h1
    have h3 := opds_ok h hl
    exact ⟨_, by simp only [tvsV, tvV, svV, h2, h3], run_invoke ho h1.symm (fun n => meth_agg hm _ n w) hg⟩
theorem enters_emb {x : Operand} {name : String} {args : Array Operand} {ats : Array TypeId} {t : TypeId} {b : Bn} {q off : Nat} {f : FuncId} {l : List TV} {T' : TypeId} {st : Bool} {cs : List CV} {c : CV} (ho : o.op = .call { callee := .invoke x name, args := args, argTypes := ats }) (hx : opd T x = some (.s (.c (.i t b q)))) (hm : stMeth P t name = some (.emb f off)) (hb : H.cells b = some (T', st, cs)) (hc : cs[q + off]? = some c) (hl : opds T args.toList = some l) (hg : Good P f) : Enters P B T H o f (.s (.c c) :: l) := fun φ ρ w h sr => by
  have h1 := h _ _ hx
  obtain ⟨l', arr, fz, i, k1, k2, _, _, _, _, k3, _⟩ := sr.block hb
  simp only [tvV, svV, cvV, ptrV, k1] at h1
  injection h1 with h1
  have h3 := opds_ok h hl
  obtain ⟨v, m1, m2⟩ := k3 _ _ hc
  exact ⟨(v :: args.toList.map ρ).toArray, by simp only [tvsV, tvV, svV, m2, h3], run_invoke ho h1.symm (fun n => meth_emb hm _ _ (by rw [cell_of k2, Nat.add_assoc]; exact m1) n) hg⟩
end
end Ev
end Go.Proofs.YtajhndakkaniaaaGreatDoor
/- An evaluator for closed runs: each operation, decided. -/
namespace Go.Proofs.YtajhndakkaniaaaGreatDoor
open Go

namespace Ev
/-- an operation only yields; acts; calls; is not known -/
inductive Rs where
  | y (r : Option TV)
  | d (r : Option TV) (H : Hp)
  | e (f : FuncId) (l : List TV)
  | no
noncomputable def RsOk (P : Program) (B : Nat) (T : Tm) (H : Hp) (o : Oper) : Rs → Prop
  | .y r => Yields P B T H o r
  | .d r H' => Does P B T H o r H'
  | .e f l => Good P f → Enters P B T H o f l
  | .no => True
noncomputable def kv (v : Value) : Rs := .y (some (.s (.c (.k v))))
noncomputable def sPick (T : Tm) (c x y : Operand) : Rs := match opk T c with
  | some (.bool t) => .y (opd T (if t then x else y))
  | _ => .no
noncomputable def sAlloc (P : Program) (H : Hp) (e : TypeId) : Rs := match zeroCs P e, stSize P e with
  | some z, some n => if Nat.beq z.length n then .d (some (ptrTV H)) (H.new (.cells e false z)) else .no
  | _, _ => .no
noncomputable def sBox (P : Program) (T : Tm) (H : Hp) (e : TypeId) (x : Operand) : Rs := match opsv T x, stSize P e with
  | some u, some n => if u.cells.all oneC then if Nat.beq u.cells.length n then .d (some (ptrTV H)) (H.new (.cells e false u.cells)) else .no else .no
  | _, _ => .no
noncomputable def sBuild (P : Program) (T : Tm) (t : TypeId) (parts : Array (Nat × Operand)) : Rs := match stBuild P t with
  | some (z, pl) => if partsOne T parts.toList then match fillA pl T z parts.toList with
      | some r => .y (some (.s (.a r)))
      | none => .no
    else .no
  | none => .no
noncomputable def sBuildS (P : Program) (T : Tm) (H : Hp) (t : TypeId) (len : Nat) (parts : Array (Nat × Operand)) : Rs := match stApp P t with
  | some (e, z, _) => match zeroCs P e with
    | some zc => if Nat.ble (len * z) 16777216 then if partsOne T parts.toList then match fillA (plN z 0 len) T (repC zc len) parts.toList with
        | some r => .d (some (rowTV H len)) (H.new (.cells e false r))
        | none => .no
      else .no else .no
    | none => .no
  | none => .no
noncomputable def sLoad (P : Program) (T : Tm) (H : Hp) (t : TypeId) (x : Operand) : Rs := match opp T x with
  | some (b, q) => match H.cells b with
    | some (_, _, cs) => match stLoad P t with
      | some none => match nth cs q with
        | some c => .y (some (.s (.c c)))
        | none => .no
      | some (some n) => match ldN cs q n with
        | some r => .y (some (.s (.a r)))
        | none => .no
      | none => .no
    | none => .no
  | none => .no
noncomputable def sStore (P : Program) (T : Tm) (H : Hp) (t : TypeId) (x v : Operand) : Rs := match stSize P t, opp T x, opsv T v with
  | some n, some (b, q), some u => match H.cells b with
    | some (T', st, cs) => if u.cells.all oneC then if Nat.beq u.cells.length n then match stN cs q u.cells with
        | some cs' => .d none (H.set b (.cells T' st cs'))
        | none => .no
      else .no else .no
    | none => .no
  | _, _, _ => .no
noncomputable def sNil (T : Tm) (x : Operand) : Rs := match opp T x with
  | some (b, q) => .y (some (.s (.c (.p b q))))
  | none => .no
noncomputable def sKeys (P : Program) (T : Tm) (op : BinOp) (t : TypeId) (x y : Operand) : Rs := match twoOf op, stKey P t, opa T x, opa T y with
  | some tw, some os, some l, some m => match eqKey os l m with
    | some r => kv (tw.of r)
    | none => .no
  | _, _, _, _ => .no
noncomputable def sSame (P : Program) (H : Hp) (op : BinOp) (t : TypeId) (u v : CV) : Rs := match twoOf op, eqCV H (tkOf P t) u v with
  | some tw, some r => kv (tw.of r)
  | some tw, none => match eqMp P t u v with
    | some r => kv (tw.of r)
    | none => .no
  | none, _ => .no
noncomputable def isU : CV → Bool
  | .u _ _ _ _ => true
  | _ => false
noncomputable def sSubU (H : Hp) (u v : CV) : Rs := match u, v with
  | .k (.int .i64 n), .u .i64 zz false m => match rng H (.u .i64 zz true (n - m)) with
    | some (_, a, b) => if -9223372036854775808 ≤ a then if b < 9223372036854775808 then .y (some (.s (.c (.u .i64 zz true (n - m))))) else .no else .no
    | none => .no
  | _, _ => .no
noncomputable def sSym (H : Hp) (op : BinOp) (u v : CV) : Rs := match rng H u, rng H v with
  | some (k, a, b), some (k', c, d) => match decide (k = k') with
    | true => match cmpR op a b c d with
      | some r => kv (.bool r)
      | none => match op with
        | .sub => sSubU H u v
        | _ => .no
    | false => .no
  | _, _ => .no
noncomputable def sSame' (P : Program) (H : Hp) (op : BinOp) (t : TypeId) (u v : CV) : Rs := match isU u with
  | true => sSym H op u v
  | false => match isU v with
    | true => sSym H op u v
    | false => sSame P H op t u v
noncomputable def sBin (P : Program) (T : Tm) (H : Hp) (op : BinOp) (t : TypeId) (x y : Operand) : Rs := match opk T x, opk T y with
  | some (.int k a), some (.int k' b) => match isShift op with
    | true => match natOf b with
      | some n => match binS op k a n with
        | some r => kv r
        | none => .no
      | none => .no
    | false => if k = k' then match binI op k a b with
        | some r => kv r
        | none => .no
      else .no
  | some (.string a), some (.string b) => match binT op a b with
    | some r => kv r
    | none => .no
  | _, _ => match opd T x, opd T y with
    | some (.s (.c u)), some (.s (.c v)) => sSame' P H op t u v
    | _, _ => sKeys P T op t x y
noncomputable def sNot (T : Tm) (x : Operand) : Rs := match opk T x with
  | some (.bool b) => kv (.bool !b)
  | _ => .no
noncomputable def sConv (P : Program) (T : Tm) (H : Hp) (s t : TypeId) (x : Operand) : Rs := match und P s, und P t with
  | some _, some (.int k) => match opk T x with
    | some (.int _ n) => kv (.int k (k.wrap n))
    | _ => .no
  | _, _ => match ops' T x with
    | some (b, p, d, n, q) => match H.cells b with
      | some (T', _, cs) => match stBS P s t with
        | true => if Nat.blt 0 n then match ldN cs p n with
            | some r => match bytesOf r with
              | some bs => kv (.string ⟨bs.toArray⟩)
              | none => .no
            | none => .no
          else .no
        | false => match stMark P s t with
          | true => .d (some (.s (.c (.s b p d n q)))) (H.set b (.cells T' true cs))
          | false => .no
      | none => .no
    | none => .no
noncomputable def sIfc (P : Program) (T : Tm) (t : TypeId) (x : Operand) : Rs := match stPlain P t with
  | true => match opp T x with
    | some (b, q) => .y (some (.s (.c (.i t b q))))
    | none => match opd T x with
      | some (.s (.a l)) => .y (some (.i t l))
      | _ => .no
  | false => .no
noncomputable def sFunc (T : Tm) (f : FuncId) (caps : Array Operand) : Rs := match oppts T caps.toList with
  | some l => .y (some (.s (.c (.f f l))))
  | none => .no
noncomputable def sMake (P : Program) (T : Tm) (H : Hp) (t : TypeId) (l c : Operand) : Rs := match stApp P t, opi T l, opi T c with
  | some (e, _, by'), some i, some j => match zeroCs P e, natOf i, natOf j with
    | some zc, some n, some m => if Nat.ble n m then if fits m by' then .d (some (rowTV H n)) (H.new (.cells e false (repC zc m))) else .no else .no
    | _, _, _ => .no
  | _, _, _ => .no
noncomputable def sel0 (a e p : Nat) : Nat := if Nat.beq a 0 then e else p
/-- room that is known -/
noncomputable def roomB (P : Program) (H : Hp) (t : TypeId) (b : Bn) (p d h : Nat) : Bool := match stApp P t, H.cells b with
  | some (e, z, _), some (T', _, cs) => Nat.beq T' e && (Nat.beq p (d * z) && Nat.ble (p + h * z) cs.length)
  | _, _ => false
noncomputable def sSlice (P : Program) (T : Tm) (H : Hp) (t : TypeId) (x : Operand) (lo hi mx : Option Operand) : Rs := match stSlice P t, ops' T x with
  | some z, some (b, p, d, n, e) => match bnd T 0 lo, bnd T n hi with
    | some a, some h' => match mx with
      | none => if Nat.ble a h' then if Nat.ble h' n then .y (some (.s (.c (.s b (p + a * z) (d + a) (h' - a) (sel0 a e p))))) else if roomB P H t b p d h' then .y (some (.s (.c (.s b (p + a * z) (d + a) (h' - a) (sel0 a e p))))) else .no else .no
      | some m => match bnd T n (some m) with
        | some q => if hi.isSome then if Nat.ble a h' then if Nat.ble h' q then if Nat.ble q n then .y none else .no else .no else .no else .no
        | none => .no
    | _, _ => .no
  | some _, none => match opk T x, bnd T 0 lo, bnd T 0 hi with
    | some (.slice none 0 0), some 0, some 0 => match mx with
      | none => kv (.slice none 0 0)
      | some _ => .no
    | _, _, _ => .no
  | _, _ => .no
noncomputable def sField (P : Program) (T : Tm) (t : TypeId) (x : Operand) (f : Nat) : Rs := match stField P t f, opp T x with
  | some k, some (b, q) => .y (some (.s (.c (.p b (q + k)))))
  | _, _ => .no
noncomputable def sIxA (P : Program) (T : Tm) (t : TypeId) (x ix : Operand) : Rs := match stElem P t, opi T ix with
  | some (none, z), some i => match ops' T x, natOf i with
    | some (b, p, _, n, _), some k => if Nat.blt k n then .y (some (.s (.c (.p b (p + k * z))))) else .no
    | _, _ => .no
  | some (some n, z), some i => match opp T x, natOf i with
    | some (b, q), some k => if Nat.blt k n then .y (some (.s (.c (.p b (q + k * z))))) else .no
    | _, _ => .no
  | _, _ => .no
noncomputable def sIx (P : Program) (T : Tm) (t : TypeId) (x ix : Operand) : Rs := match opi T ix with
  | some i => match natOf i with
    | some k => match opd T x with
      | some (.s (.a l)) => match stArr P t with
        | some (n, z, b) => if Nat.blt k n then match ldN l (k * z) z with
            | some r => match svOf b r with
              | some v => .y (some (.s v))
              | none => .no
            | none => .no
          else .no
        | none => .no
      | some (.s (.c (.k (.string s)))) => match und P t with
        | some .string => match s.data[k]? with
          | some b => kv (.int .u8 b.toNat)
          | none => .no
        | _ => .no
      | _ => .no
    | none => .no
  | none => .no
noncomputable def sLookI (P : Program) (T : Tm) (H : Hp) (t : TypeId) (x ix : Operand) : Rs := match stLookI P t, opm T x, opk T ix with
  | some z, some b, some (.int kd k) => match H.mp b with
    | some l => match findI kd k l 0 with
      | some r => .y (some (.s (.c (orZ z r))))
      | none => .no
    | none => .no
  | _, _, _ => .no
noncomputable def sLook (P : Program) (T : Tm) (H : Hp) (t : TypeId) (x ix : Operand) : Rs := match stLook P t, opm T x, opa T ix with
  | some (os, z), some b, some k => match H.mp b with
    | some l => match intsAt os k with
      | true => match findC os k l 0 with
        | some r => .y (some (.s (.c (orZ z r))))
        | none => .no
      | false => .no
    | none => .no
  | _, _, _ => sLookI P T H t x ix
noncomputable def sExtr (T : Tm) (x : Operand) (i : Nat) : Rs := match opd T x with
  | some (.t l) => match l[i]? with
    | some v => .y (some (.s v))
    | none => .no
  | _ => .no
section
variable {P : Program} {B : Nat} {T : Tm} {H : Hp} {o : Oper}
theorem sPick_ok {c x y : Operand} (ho : o.op = .pick c x y) : RsOk P B T H o (sPick T c x y) := by
  unfold sPick
  split
  · exact yields_pick ho (by assumption)
  · trivial
theorem sAlloc_ok {e : TypeId} (ho : o.op = .alloc e) : RsOk P B T H o (sAlloc P H e) := by
  unfold sAlloc
  split
  · split
    · exact does_alloc ho (by assumption) (by assumption) (by assumption)
    · trivial
  · trivial
theorem sBox_ok {e : TypeId} {x : Operand} (ho : o.op = .box e x) : RsOk P B T H o (sBox P T H e x) := by
  unfold sBox
  repeat' split
  all_goals first | trivial | exact does_box ho (by assumption) (by assumption) (by assumption) (by assumption)
theorem sBuild_ok {t : TypeId} {parts : Array (Nat × Operand)} (ho : o.op = .build t parts) : RsOk P B T H o (sBuild P T t parts) := by
  unfold sBuild
  repeat' split
  all_goals first | trivial | exact yields_build ho (by assumption) (by assumption) (by assumption)
theorem sBuildS_ok {t : TypeId} {len : Nat} {parts : Array (Nat × Operand)} (ho : o.op = .buildSlice t len parts) : RsOk P B T H o (sBuildS P T H t len parts) := by
  unfold sBuildS
  repeat' split
  all_goals first | trivial | exact does_buildS ho (by assumption) (by assumption) (by assumption) (by assumption) (by assumption)
theorem sLoad_ok {t : TypeId} {x : Operand} (ho : o.op = .load t x) : RsOk P B T H o (sLoad P T H t x) := by
  unfold sLoad
  repeat' split
  all_goals first | trivial | exact yields_load1 ho (by assumption) (by assumption) (by assumption) (by assumption) | exact yields_loadN ho (by assumption) (by assumption) (by assumption) (by assumption)
theorem sStore_ok {t : TypeId} {x v : Operand} (ho : o.op = .store t x v) : RsOk P B T H o (sStore P T H t x v) := by
  unfold sStore
  repeat' split
  all_goals first | trivial | exact does_store ho (by assumption) (by assumption) (by assumption) (by assumption) (by assumption) (by assumption) (by assumption)
theorem sNil_ok {x : Operand} (ho : o.op = .nilCheck x) : RsOk P B T H o (sNil T x) := by
  unfold sNil
  repeat' split
  all_goals first | trivial | exact yields_nil ho (by assumption)
theorem sKeys_ok {op : BinOp} {t t' : TypeId} {x y : Operand} (ho : o.op = .binOp op t x y t') : RsOk P B T H o (sKeys P T op t x y) := by
  unfold sKeys
  repeat' split
  all_goals first | trivial | exact yields_eqKey ho (by assumption) (by assumption) (by assumption) (by assumption) (by assumption)
theorem sSym_ok {op : BinOp} {t t' : TypeId} {x y : Operand} {u v : CV} (ho : o.op = .binOp op t x y t') (hx : opd T x = some (.s (.c u))) (hy : opd T y = some (.s (.c v))) : RsOk P B T H o (sSym H op u v) := by
  unfold sSym
  split
  · rename_i k a b k' c d e1 e2
    split
    · rename_i e3
      have e3 := of_decide_eq_true e3
      subst e3
      split
      · exact yields_cmpR ho hx hy e1 e2 (by assumption)
      · split
        · unfold sSubU
          split
          · split
            · split
              · split
                · exact yields_subU ho hx hy (by assumption) (by assumption) (by assumption)
                · trivial
              · trivial
            · trivial
          · trivial
        · trivial
    · trivial
  · trivial
theorem sBin_ok {op : BinOp} {t t' : TypeId} {x y : Operand} (ho : o.op = .binOp op t x y t') : RsOk P B T H o (sBin P T H op t x y) := by
  unfold sBin
  split
  · split
    · repeat' split
      all_goals first | trivial | exact yields_binS ho (by assumption) (by assumption) (by assumption) (by assumption)
    · split
      · rename_i e
        subst e
        split
        · exact yields_binI ho (by assumption) (by assumption) (by assumption)
        · trivial
      · trivial
  · split
    · exact yields_binT ho (by assumption) (by assumption) (by assumption)
    · trivial
  · split
    · unfold sSame'
      split
      · exact sSym_ok ho (by assumption) (by assumption)
      · split
        · exact sSym_ok ho (by assumption) (by assumption)
        · unfold sSame
          repeat' split
          all_goals first | trivial | exact yields_eqCV ho (by assumption) (by assumption) (by assumption) (by assumption) | exact yields_eqMp ho (by assumption) (by assumption) (by assumption) (by assumption)
    · exact sKeys_ok ho
theorem sNot_ok {t : TypeId} {x : Operand} (ho : o.op = .unOp .not t x) : RsOk P B T H o (sNot T x) := by
  unfold sNot
  repeat' split
  all_goals first | trivial | exact yields_not ho (by assumption)
theorem sConv_ok {s t : TypeId} {x : Operand} (ho : o.op = .convert s t x) : RsOk P B T H o (sConv P T H s t x) := by
  unfold sConv
  simp only [und_eq]
  repeat' split
  all_goals first | trivial | exact yields_convI ho (by assumption) (by assumption) (by assumption) | exact yields_convS ho (by assumption) (by assumption) (by assumption) (by assumption) (by assumption) (by assumption) | exact does_mark ho (by assumption) (by assumption) (by assumption)
theorem sIfc_ok {t : TypeId} {x : Operand} (ho : o.op = .makeInterface t x) : RsOk P B T H o (sIfc P T t x) := by
  unfold sIfc
  repeat' split
  all_goals first | trivial | exact yields_ifp ho (by assumption) (by assumption) | exact yields_ifa ho (by assumption) (by assumption)
theorem sFunc_ok {f : FuncId} {caps : Array Operand} (ho : o.op = .makeFunc (.func f) #[] caps) : RsOk P B T H o (sFunc T f caps) := by
  unfold sFunc
  repeat' split
  all_goals first | trivial | exact yields_func ho (by assumption)
theorem sMake_ok {t : TypeId} {l c : Operand} (ho : o.op = .makeSlice t l c) : RsOk P B T H o (sMake P T H t l c) := by
  unfold sMake
  repeat' split
  all_goals first | trivial | exact does_make ho (by assumption) (by assumption) (by assumption) (by assumption) (by assumption) (by assumption) (by assumption) (by assumption)
theorem roomB_ok {t : TypeId} {b : Bn} {p d h' : Nat} (h : roomB P H t b p d h' = true) (φ : Ren) (l : Loc) (w : World) (sr : SR P B φ H w) (hl : φ b = some l) (n : Nat) (_ : n + d ≤ l.c) : h' + d ≤ l.c := by
  unfold roomB at h
  split at h
  · rename_i e z by' T' st cs e1 e2
    simp only [Bool.and_eq_true] at h
    obtain ⟨i, v, k1, k2, k3, k4, k5, k6, k7⟩ := stApp_ok e1
    have hT := (Nat.eq_of_beq_eq_true h.1).symm
    have hp := Nat.eq_of_beq_eq_true h.2.1
    have hr := Nat.le_of_ble_eq_true h.2.2
    subst hT
    subst hp
    obtain ⟨l', arr, fz, i', m1, m2, m3, m4, m5, _⟩ := sr.block e2
    rw [hl] at m1
    cases m1
    rw [k2] at m3
    cases m3
    rw [k5] at m5
    have : (h' + d) * z ≤ l.c * z := by
      rw [Nat.add_mul]
      omega
    exact Nat.le_of_mul_le_mul_right this k6
  · cases h
theorem yields_sliceNil {t : TypeId} {x : Operand} {lo hi : Option Operand} {z : Nat} (ho : o.op = .slice t x lo hi none) (hs : stSlice P t = some z) (hx : opk T x = some (.slice none 0 0)) (ha : bnd T 0 lo = some 0) (hb : bnd T 0 hi = some 0) : Yields P B T H o (some (.s (.c (.k (.slice none 0 0))))) := fun φ ρ w h _ => by
  obtain ⟨el, i, k1, k2, k3⟩ := stSlice_ok hs
  have h3 := opk_ok h hx
  have hbs := run_bounds (P := P) (w := w) h (n := 0) (c := 0) ha hb (Nat.le_refl _) (Nat.le_refl _) true
  have hr := run_sliceAt k1 k2 none 0 0 0 0 0 _ _ _ hbs
  refine ⟨.slice none 0 0, fun tv q => by cases q; rfl, ?_⟩
  simp only [execOp, ho, h3, Option.map_none, Sem.run_bind, hr, Result.andThen_ok]
  rfl
theorem sSlice_ok {t : TypeId} {x : Operand} {lo hi mx : Option Operand} (ho : o.op = .slice t x lo hi mx) : RsOk P B T H o (sSlice P T H t x lo hi mx) := by
  unfold sSlice
  repeat' split
  all_goals first | trivial | exact yields_slice ho (by assumption) (by assumption) (by assumption) (by assumption) (by assumption) (by assumption) | exact yields_sliceG ho (by assumption) (by assumption) (by assumption) (by assumption) (by assumption) (fun φ l w sr hl hn => roomB_ok (by assumption) φ l w sr hl _ hn) | exact yields_sliceNil ho (by assumption) (by assumption) (by assumption) (by assumption) | exact yields_slice3 ho (by assumption) (by assumption) (by assumption) (by assumption) (by assumption) (by assumption) (by assumption) (by assumption) (by assumption)
theorem sField_ok {t : TypeId} {x : Operand} {f : Nat} (ho : o.op = .fieldAddr t x f) : RsOk P B T H o (sField P T t x f) := by
  unfold sField
  repeat' split
  all_goals first | trivial | exact yields_field ho (by assumption) (by assumption)
theorem sIxA_ok {t : TypeId} {x ix : Operand} (ho : o.op = .indexAddr t x ix) : RsOk P B T H o (sIxA P T t x ix) := by
  unfold sIxA
  repeat' split
  all_goals first | trivial | exact yields_indexS ho (by assumption) (by assumption) (by assumption) (by assumption) (by assumption) | exact yields_indexA ho (by assumption) (by assumption) (by assumption) (by assumption) (by assumption)
theorem opa_of {x : Operand} {l : List CV} (h : opd T x = some (.s (.a l))) : opa T x = some l := by
  unfold opa
  rw [h]
theorem opk_of {x : Operand} {v : Value} (h : opd T x = some (.s (.c (.k v)))) : opk T x = some v := by
  unfold opk
  rw [h]
theorem sIx_ok {t : TypeId} {x ix : Operand} (ho : o.op = .index t x ix) : RsOk P B T H o (sIx P T t x ix) := by
  unfold sIx
  simp only [und_eq]
  repeat' split
  all_goals first | trivial | exact yields_index ho (by assumption) (opa_of (by assumption)) (by assumption) (by assumption) (by assumption) (by assumption) (by assumption) | exact yields_indexT ho (by assumption) (opk_of (by assumption)) (by assumption) (by assumption) (by assumption)
theorem sLook_ok {t : TypeId} {x ix : Operand} (ho : o.op = .lookup t x ix false) : RsOk P B T H o (sLook P T H t x ix) := by
  unfold sLook sLookI
  repeat' split
  all_goals first | trivial | exact yields_look ho (by assumption) (by assumption) (by assumption) (by assumption) (by assumption) (by assumption) | exact yields_lookI ho (by assumption) (by assumption) (by assumption) (by assumption) (by assumption)
theorem sExtr_ok {x : Operand} {i : Nat} (ho : o.op = .extract x i) : RsOk P B T H o (sExtr T x i) := by
  unfold sExtr
  repeat' split
  all_goals first | trivial | exact yields_extract ho (by assumption) (by assumption)
end
end Ev
end Go.Proofs.YtajhndakkaniaaaGreatDoor
/- An evaluator for closed runs: builtin functions, calls, all operations. -/
namespace Go.Proofs.YtajhndakkaniaaaGreatDoor
open Go

namespace Ev
noncomputable def kd (v : Value) (H : Hp) : Rs := .d (some (.s (.c (.k v)))) H
noncomputable def sLen (P : Program) (T : Tm) (H : Hp) (t : TypeId) (x : Operand) : Rs := match opd T x with
  | some (.s (.c (.k (.string s)))) => match und P t with
    | some .string => kv (.int .i64 s.size)
    | _ => .no
  | some (.s (.c (.m b))) => match und P t with
    | some (.map _ _) => match H.mp b with
      | some l => kv (.int .i64 l.length)
      | none => .no
    | _ => .no
  | some (.s (.c c)) => match stSlice P t, lenC c with
    | some _, some n => kv (.int .i64 n)
    | _, _ => .no
  | _ => .no
noncomputable def sApp2 (H : Hp) (e : TypeId) (z by' : Nat) (c : CV) (n : Nat) (xs : List CV) : Rs := match c with
  | .k (.slice none 0 0) => if fits n by' then .d (some (rowTV H n)) (H.new (.cells e false xs)) else .no
  | .s b p' d' m q' => match H.cells b with
    | some (T2, st2, cs2) => if Nat.beq T2 e then if Nat.beq p' (d' * z) then if xs.all oneC then match stN cs2 (p' + m * z) xs with
        | some cs' => .d (some (.s (.c (.s b p' d' (m + n) q')))) (H.set b (.cells T2 st2 cs'))
        | none => match ldN cs2 p' (m * z) with
          | some old => if fits (m + n) by' then .d (some (rowTV H (m + n))) ((H.kill b).new (.cells T2 st2 (old ++ xs))) else .no
          | none => .no
      else .no else .no else .no
    | none => .no
  | _ => .no
noncomputable def sApp (P : Program) (T : Tm) (H : Hp) (t : TypeId) (s x : Operand) : Rs := match stApp P t, opd T s, opd T x with
  | some (e, z, by'), some (.s (.c c)), some (.s (.c d)) => match emptyS d with
    | true => if someS c then .d (some (.s (.c c))) H else .no
    | false => match d with
      | .s y p _ n _ => if Nat.blt 0 n then match H.cells y with
          | some (_, _, cs) => match ldN cs p (n * z) with
            | some xs => sApp2 H e z by' c n xs
            | none => .no
          | none => .no
        else .no
      | _ => .no
  | _, _, _ => .no
noncomputable def sClear (P : Program) (T : Tm) (H : Hp) (t : TypeId) (x : Operand) : Rs := match opd T x with
  | some (.s (.c c)) => match emptyS c with
    | true => match und P t with
      | some _ => .d none H
      | none => .no
    | false => match c with
      | .s b p _ n _ => match stApp P t, H.cells b with
        | some (e, _, _), some (T', st, cs) => match zeroCs P e with
          | some zc => if Nat.blt 0 n then if zc.all oneC then match stN cs p (repC zc n) with
              | some cs' => .d none (H.set b (.cells T' st cs'))
              | none => .no
            else .no else .no
          | none => .no
        | _, _ => .no
      | _ => .no
  | _ => .no
noncomputable def sCopy2 (H : Hp) (z : Nat) (c d : CV) : Rs := match c, d with
  | .s b p' _ m _, .s y p _ n _ => match H.cells y, H.cells b with
    | some (_, _, cs), some (T2, st2, cs2) => if Nat.blt 0 (Nat.min n m) then match ldN cs p (Nat.min n m * z) with
        | some xs => if xs.all oneC then match stN cs2 p' xs with
            | some cs' => kd (.int .i64 (Nat.min n m : Nat)) (H.set b (.cells T2 st2 cs'))
            | none => .no
          else .no
        | none => .no
      else .no
    | _, _ => .no
  | _, _ => .no
noncomputable def sCopy (P : Program) (T : Tm) (H : Hp) (t : TypeId) (s x : Operand) : Rs := match stApp P t, opd T s, opd T x with
  | some (_, z, _), some (.s (.c c)), some (.s (.c d)) => match lenC c, lenC d with
    | some m, some n => if Nat.beq (Nat.min n m) 0 then kd (.int .i64 0) H else sCopy2 H z c d
    | _, _ => .no
  | _, _, _ => .no
noncomputable def sMMU (H : Hp) (mx : Bool) (u v : CV) : Rs := match rng H u, rng H v with
  | some (k, a, b), some (k', c, d) => match decide (k = k') with
    | true => match mx with
      | true => match cmpR .leq a b c d with
        | some true => .y (some (.s (.c v)))
        | _ => match cmpR .lss a b c d with
          | some r => .y (some (.s (.c (if r then v else u))))
          | none => .no
      | false => match cmpR .leq c d a b with
        | some true => .y (some (.s (.c v)))
        | _ => match cmpR .lss c d a b with
          | some r => .y (some (.s (.c (if r then v else u))))
          | none => .no
    | false => .no
  | _, _ => .no
noncomputable def sDelI (P : Program) (T : Tm) (H : Hp) (t : TypeId) (x ix : Operand) : Rs := match stLookI P t, opm T x, opk T ix with
  | some _, some b, some (.int kd k) => match H.mp b with
    | some l => match findI kd k l 0 with
      | some r => .d none (H.set b (.map (lessE l r)))
      | none => .no
    | none => .no
  | _, _, _ => .no
noncomputable def sUpdI (P : Program) (T : Tm) (H : Hp) (t : TypeId) (x ix v : Operand) : Rs := match stLookI P t, opm T x, opk T ix with
  | some _, some b, some (.int kd k) => match H.mp b, opd T v with
    | some l, some (.s (.c c)) => match findI kd k l 0 with
      | some none => .d none (H.set b (.map (l ++ [([.k (.int kd k)], c)])))
      | _ => .no
    | _, _ => .no
  | _, _, _ => .no
noncomputable def sDel (P : Program) (T : Tm) (H : Hp) (t : TypeId) (x ix : Operand) : Rs := match stLook P t, opm T x, opa T ix with
  | some (os, _), some b, some k => match H.mp b with
    | some l => match intsAt os k with
      | true => match findC os k l 0 with
        | some r => .d none (H.set b (.map (lessE l r)))
        | none => .no
      | false => .no
    | none => .no
  | _, _, _ => sDelI P T H t x ix
noncomputable def sUpd (P : Program) (T : Tm) (H : Hp) (t : TypeId) (x ix v : Operand) : Rs := match stLook P t, opm T x, opa T ix with
  | some (os, _), some b, some k => match H.mp b, opd T v with
    | some l, some (.s (.c c)) => match intsAt os k with
      | true => match findC os k l 0 with
        | some none => match notOne k with
          | true => .d none (H.set b (.map (l ++ [(k, c)])))
          | false => .no
        | _ => .no
      | false => .no
    | _, _ => .no
  | _, _, _ => sUpdI P T H t x ix v
noncomputable def sMinMax (T : Tm) (H : Hp) (mx : Bool) (x y : Operand) : Rs := match opk T x, opk T y with
  | some (.int k a), some (.int _ b) => match mx with
    | true => kv (.int k (if a < b then b else a))
    | false => kv (.int k (if b < a then b else a))
  | _, _ => match opd T x, opd T y with
    | some (.s (.c u)), some (.s (.c v)) => sMMU H mx u v
    | _, _ => .no
noncomputable def sBi (P : Program) (T : Tm) (H : Hp) (bi : Builtin) (args : List Operand) (ats : List TypeId) : Rs := match bi, args, ats with
  | .len, [x], [t] => sLen P T H t x
  | .append, [s, x], [t, t'] => if Nat.beq t t' then sApp P T H t s x else .no
  | .min, [x, y], [_, _] => sMinMax T H false x y
  | .max, [x, y], [_, _] => sMinMax T H true x y
  | .clear, [x], [t] => sClear P T H t x
  | .copy, [s, x], [t, _] => sCopy P T H t s x
  | .delete, [x, ix], [t, _] => sDel P T H t x ix
  | _, _, _ => .no
noncomputable def sInvoke (P : Program) (T : Tm) (H : Hp) (x : Operand) (name : String) (args : List Operand) : Rs := match opd T x, opds T args with
  | some (.s (.c (.i t b q))), some l => match stMeth P t name with
    | some (.ptr f) => .e f (.s (.c (.p b q)) :: l)
    | some (.emb f off) => match H.cells b with
      | some (_, _, cs) => match cs[q + off]? with
        | some c => .e f (.s (.c c) :: l)
        | none => .no
      | none => .no
    | _ => .no
  | some (.i t cs), some l => match stMeth P t name with
    | some (.agg f) => .e f (.s (.a cs) :: l)
    | _ => .no
  | _, _ => .no
noncomputable def sCall (P : Program) (T : Tm) (H : Hp) (c : Call) : Rs := match c.callee with
  | .value x => match opd T x, opds T c.args.toList with
    | some (.s (.c (.f g cs))), some l => .e g (l ++ capTV cs)
    | _, _ => .no
  | .invoke x name => sInvoke P T H x name c.args.toList
  | .builtin bi => sBi P T H bi c.args.toList c.argTypes.toList
noncomputable def sUn (u : UnOp) (T : Tm) (x : Operand) : Rs := match u with
  | .not => sNot T x
  | _ => .no
noncomputable def sFn (fn : Fn) (first caps : Array Operand) (T : Tm) : Rs := match fn, first.toList with
  | .func f, [] => sFunc T f caps
  | _, _ => .no
noncomputable def sMap (r : Option Operand) (H : Hp) : Rs := match r with
  | none => .d (some (.s (.c (.m H.nx)))) (H.new (.map []))
  | some _ => .no
noncomputable def sLookB (b : Bool) (P : Program) (T : Tm) (H : Hp) (t : TypeId) (x ix : Operand) : Rs := match b with
  | false => sLook P T H t x ix
  | true => .no
/-- of each kind of operation: closed branches -/
noncomputable def sOpF (op : Op) : Program → Tm → Hp → Rs := Op.casesOn (motive := fun _ => Program → Tm → Hp → Rs) op
  (fun x _ T _ => .y (opd T x))
  (fun x _ T _ => .y (opd T x))
  (fun c x y _ T _ => sPick T c x y)
  (fun e P _ H => sAlloc P H e)
  (fun e x P T H => sBox P T H e x)
  (fun t parts P T _ => sBuild P T t parts)
  (fun t len parts P T H => sBuildS P T H t len parts)
  (fun _ _ _ _ _ _ _ => .no)
  (fun t x P T H => sLoad P T H t x)
  (fun t x v P T H => sStore P T H t x v)
  (fun _ _ _ _ => .no)
  (fun _ _ _ _ => .no)
  (fun x _ T _ => sNil T x)
  (fun op t x y _ P T H => sBin P T H op t x y)
  (fun u _ x _ T _ => sUn u T x)
  (fun s t x P T H => sConv P T H s t x)
  (fun _ _ _ _ _ => .no)
  (fun t x P T _ => sIfc P T t x)
  (fun fn first caps _ T _ => sFn fn first caps T)
  (fun _ r _ _ H => sMap r H)
  (fun _ _ _ _ _ => .no)
  (fun t l c P T H => sMake P T H t l c)
  (fun t x lo hi mx P T H => sSlice P T H t x lo hi mx)
  (fun t x f P T _ => sField P T t x f)
  (fun _ _ _ _ _ _ => .no)
  (fun t x ix P T _ => sIxA P T t x ix)
  (fun t x ix P T _ => sIx P T t x ix)
  (fun t x ix b P T H => sLookB b P T H t x ix)
  (fun t x ix v P T H => sUpd P T H t x ix v)
  (fun _ _ _ _ _ _ => .no)
  (fun _ _ _ _ _ _ _ => .no)
  (fun _ _ _ _ _ => .no)
  (fun _ _ _ _ _ => .no)
  (fun _ _ _ _ => .no)
  (fun _ _ _ _ _ _ _ => .no)
  (fun x i _ T _ => sExtr T x i)
  (fun c P T H => sCall P T H c)
  (fun _ _ _ _ => .no)
  (fun _ _ _ _ => .no)
  (fun _ _ _ _ => .no)
  (fun _ _ _ _ _ => .no)
  (fun _ _ _ _ _ _ => .no)
  (fun _ _ _ _ _ => .no)
noncomputable def sOp (P : Program) (T : Tm) (H : Hp) (o : Oper) : Rs := sOpF o.op P T H
theorem sOp_def (P : Program) (T : Tm) (H : Hp) (o : Oper) : sOp P T H o = (match o.op with
  | .move x => .y (opd T x)
  | .assign x => .y (opd T x)
  | .pick c x y => sPick T c x y
  | .alloc e => sAlloc P H e
  | .box e x => sBox P T H e x
  | .build t parts => sBuild P T t parts
  | .buildSlice t len parts => sBuildS P T H t len parts
  | .load t x => sLoad P T H t x
  | .store t x v => sStore P T H t x v
  | .nilCheck x => sNil T x
  | .binOp op t x y _ => sBin P T H op t x y
  | .unOp .not _ x => sNot T x
  | .convert s t x => sConv P T H s t x
  | .makeInterface t x => sIfc P T t x
  | .makeFunc (.func f) ⟨[]⟩ caps => sFunc T f caps
  | .makeMap _ none => .d (some (.s (.c (.m H.nx)))) (H.new (.map []))
  | .makeSlice t l c => sMake P T H t l c
  | .slice t x lo hi mx => sSlice P T H t x lo hi mx
  | .fieldAddr t x f => sField P T t x f
  | .indexAddr t x ix => sIxA P T t x ix
  | .index t x ix => sIx P T t x ix
  | .lookup t x ix false => sLook P T H t x ix
  | .mapUpdate t x ix v => sUpd P T H t x ix v
  | .extract x i => sExtr T x i
  | .call c => sCall P T H c
  | _ => .no) := by
  unfold sOp
  cases o.op with
  | unOp u t x => cases u <;> rfl
  | makeFunc fn first caps =>
    obtain ⟨l⟩ := first
    cases fn <;> cases l <;> rfl
  | makeMap t r => cases r <;> rfl
  | lookup t x ix b => cases b <;> rfl
  | _ => rfl
section
variable {P : Program} {B : Nat} {T : Tm} {H : Hp} {o : Oper}
theorem arr_of {α : Type} {a : Array α} {l : List α} (h : a.toList = l) : a = l.toArray := by
  cases a
  cases h
  rfl
theorem opm_of {x : Operand} {b : Bn} (h : opd T x = some (.s (.c (.m b)))) : opm T x = some b := by
  unfold opm
  rw [h]
theorem ops_of {x : Operand} {b : Bn} {p d n e : Nat} (h : opd T x = some (.s (.c (.s b p d n e)))) : ops' T x = some (b, p, d, n, e) := by
  unfold ops'
  rw [h]
theorem sLen_ok {t : TypeId} {x : Operand} (ho : o.op = .call { callee := .builtin .len, args := #[x], argTypes := #[t] }) : RsOk P B T H o (sLen P T H t x) := by
  unfold sLen
  simp only [und_eq]
  split
  · split
    · exact yields_lenT ho (by assumption) (opk_of (by assumption))
    · trivial
  · split
    · split
      · exact yields_lenM ho (by assumption) (opm_of (by assumption)) (by assumption)
      · trivial
    · trivial
  · split
    · exact yields_len ho (by assumption) (by assumption) (by assumption)
    · trivial
  · trivial
theorem sApp_ok {t : TypeId} {s x : Operand} (ho : o.op = .call { callee := .builtin .append, args := #[s, x], argTypes := #[t, t] }) : RsOk P B T H o (sApp P T H t s x) := by
  unfold sApp
  split
  · split
    · split
      · exact does_app0 ho (by assumption) (by assumption) (by assumption) (by assumption) (by assumption)
      · trivial
    · split
      · split
        · split
          · split
            · unfold sApp2
              split
              · split
                · exact does_appNil ho (by assumption) (opk_of (by assumption)) (ops_of (by assumption)) (by assumption) (by assumption) (by assumption) (by assumption)
                · trivial
              · split
                · split
                  · split
                    · split
                      · split
                        · exact does_appIn ho (by assumption) (ops_of (by assumption)) (ops_of (by assumption)) (by assumption) (by assumption) (by assumption) (by assumption) (by assumption) (by assumption) (by assumption) (by assumption)
                        · split
                          · split
                            · exact does_appMv ho (by assumption) (ops_of (by assumption)) (ops_of (by assumption)) (by assumption) (by assumption) (by assumption) (by assumption) (by assumption) (by assumption) (by assumption) (by assumption) (by assumption)
                            · trivial
                          · trivial
                      · trivial
                    · trivial
                  · trivial
                · trivial
              · trivial
            · trivial
          · trivial
        · trivial
      · trivial
  · trivial
theorem sClear_ok {t : TypeId} {x : Operand} (ho : o.op = .call { callee := .builtin .clear, args := #[x], argTypes := #[t] }) : RsOk P B T H o (sClear P T H t x) := by
  unfold sClear
  simp only [und_eq]
  repeat' split
  all_goals first | trivial | exact does_clear0 ho (by assumption) (by assumption) (by assumption) | exact does_clear ho (by assumption) (by assumption) (ops_of (by assumption)) (by assumption) (by assumption) (by assumption) (by assumption)
theorem sCopy_ok {t t' : TypeId} {s x : Operand} (ho : o.op = .call { callee := .builtin .copy, args := #[s, x], argTypes := #[t, t'] }) : RsOk P B T H o (sCopy P T H t s x) := by
  unfold sCopy
  split
  · split
    · split
      · exact does_copy0 ho (by assumption) (by assumption) (by assumption) (by assumption) (by assumption) (by assumption)
      · unfold sCopy2
        split
        · repeat' split
          all_goals first | trivial | exact does_copy ho (by assumption) (ops_of (by assumption)) (ops_of (by assumption)) (by assumption) (by assumption) (by assumption) (by assumption) (by assumption) (by assumption)
        · trivial
    · trivial
  · trivial
theorem sMMU_min {t t' : TypeId} {x y : Operand} {u v : CV} (ho : o.op = .call { callee := .builtin .min, args := #[x, y], argTypes := #[t, t'] }) (hx : opd T x = some (.s (.c u))) (hy : opd T y = some (.s (.c v))) : RsOk P B T H o (sMMU H false u v) := by
  unfold sMMU
  split
  · rename_i k a b k' c d e1 e2
    split
    · rename_i e3
      have e3 := of_decide_eq_true e3
      subst e3
      simp only
      split
      · exact yields_minE ho hx hy e1 e2 (by assumption)
      · split
        · exact yields_minU ho hx hy e1 e2 (by assumption)
        · trivial
    · trivial
  · trivial
theorem sMMU_max {t t' : TypeId} {x y : Operand} {u v : CV} (ho : o.op = .call { callee := .builtin .max, args := #[x, y], argTypes := #[t, t'] }) (hx : opd T x = some (.s (.c u))) (hy : opd T y = some (.s (.c v))) : RsOk P B T H o (sMMU H true u v) := by
  unfold sMMU
  split
  · rename_i k a b k' c d e1 e2
    split
    · rename_i e3
      have e3 := of_decide_eq_true e3
      subst e3
      simp only
      split
      · exact yields_maxE ho hx hy e1 e2 (by assumption)
      · split
        · exact yields_maxU ho hx hy e1 e2 (by assumption)
        · trivial
    · trivial
  · trivial
theorem sDel_ok {t t' : TypeId} {x ix : Operand} (ho : o.op = .call { callee := .builtin .delete, args := #[x, ix], argTypes := #[t, t'] }) : RsOk P B T H o (sDel P T H t x ix) := by
  unfold sDel sDelI
  repeat' split
  all_goals first | trivial | exact does_delete ho (by assumption) (by assumption) (by assumption) (by assumption) (by assumption) (by assumption) | exact does_deleteI ho (by assumption) (by assumption) (by assumption) (by assumption) (by assumption)
theorem sUpd_ok {t : TypeId} {x ix v : Operand} (ho : o.op = .mapUpdate t x ix v) : RsOk P B T H o (sUpd P T H t x ix v) := by
  unfold sUpd sUpdI
  repeat' split
  all_goals first | trivial | exact does_mapset ho (by assumption) (by assumption) (by assumption) (by assumption) (by assumption) (by assumption) (by assumption) (by assumption) | exact does_mapsetI ho (by assumption) (by assumption) (by assumption) (by assumption) (by assumption) (by assumption)
theorem sMin_ok {t t' : TypeId} {x y : Operand} (ho : o.op = .call { callee := .builtin .min, args := #[x, y], argTypes := #[t, t'] }) : RsOk P B T H o (sMinMax T H false x y) := by
  unfold sMinMax
  split
  · exact yields_min ho (by assumption) (by assumption)
  · split
    · exact sMMU_min ho (by assumption) (by assumption)
    · trivial
theorem sMax_ok {t t' : TypeId} {x y : Operand} (ho : o.op = .call { callee := .builtin .max, args := #[x, y], argTypes := #[t, t'] }) : RsOk P B T H o (sMinMax T H true x y) := by
  unfold sMinMax
  split
  · exact yields_max ho (by assumption) (by assumption)
  · split
    · exact sMMU_max ho (by assumption) (by assumption)
    · trivial
theorem call_eta {c : Call} {k : Callee} {a : List Operand} {t : List TypeId} (h1 : c.callee = k) (h2 : c.args.toList = a) (h3 : c.argTypes.toList = t) : c = { callee := k, args := a.toArray, argTypes := t.toArray } := by
  cases c
  cases h1
  cases arr_of h2
  cases arr_of h3
  rfl
theorem sCall_ok {c : Call} (ho : o.op = .call c) : RsOk P B T H o (sCall P T H c) := by
  unfold sCall
  split
  · rename_i x h1
    have h2 := call_eta h1 rfl rfl
    rw [h2] at ho
    split
    · exact fun hg => enters_value ho (by assumption) (by assumption) hg
    · trivial
  · rename_i x name h1
    have h2 := call_eta h1 rfl rfl
    rw [h2] at ho
    unfold sInvoke
    split
    · split
      · exact fun hg => enters_ptr ho (by assumption) (by assumption) (by assumption) hg
      · split
        · split
          · exact fun hg => enters_emb ho (by assumption) (by assumption) (by assumption) (by assumption) (by assumption) hg
          · trivial
        · trivial
      · trivial
    · split
      · exact fun hg => enters_agg ho (by assumption) (by assumption) (by assumption) hg
      · trivial
    · trivial
  · rename_i bi h1
    unfold sBi
    split
    · rename_i h2 h3
      rw [call_eta h1 h2 h3] at ho
      exact sLen_ok ho
    · rename_i h2 h3
      rw [call_eta h1 h2 h3] at ho
      split
      · rename_i e
        have e := Nat.eq_of_beq_eq_true e
        subst e
        exact sApp_ok ho
      · trivial
    · rename_i h2 h3
      rw [call_eta h1 h2 h3] at ho
      exact sMin_ok ho
    · rename_i h2 h3
      rw [call_eta h1 h2 h3] at ho
      exact sMax_ok ho
    · rename_i h2 h3
      rw [call_eta h1 h2 h3] at ho
      exact sClear_ok ho
    · rename_i h2 h3
      rw [call_eta h1 h2 h3] at ho
      exact sCopy_ok ho
    · rename_i h2 h3
      rw [call_eta h1 h2 h3] at ho
      exact sDel_ok ho
    · trivial
theorem sOp_ok : RsOk P B T H o (sOp P T H o) := by
  rw [sOp_def]
  split <;> rename_i ho <;> first
    | trivial
    | exact yields_move ho
    | exact yields_assign ho
    | exact sPick_ok ho
    | exact sAlloc_ok ho
    | exact sBox_ok ho
    | exact sBuild_ok ho
    | exact sBuildS_ok ho
    | exact sLoad_ok ho
    | exact sStore_ok ho
    | exact sNil_ok ho
    | exact sBin_ok ho
    | exact sNot_ok ho
    | exact sConv_ok ho
    | exact sIfc_ok ho
    | exact sFunc_ok ho
    | exact does_map ho
    | exact sMake_ok ho
    | exact sSlice_ok ho
    | exact sField_ok ho
    | exact sIxA_ok ho
    | exact sIx_ok ho
    | exact sLook_ok ho
    | exact sUpd_ok ho
    | exact sExtr_ok ho
    | exact sCall_ok ho
end
end Ev
end Go.Proofs.YtajhndakkaniaaaGreatDoor
/- An evaluator for closed runs: frames, regions in order. -/
namespace Go.Proofs.YtajhndakkaniaaaGreatDoor
open Go

namespace Ev
abbrev Sc := Tm × Hp
abbrev Cl := FuncId → List TV → Hp → Option (TV × Hp)
/-- a frame that runs: so many slots, nothing deferred -/
structure Fr (φ : Ren) (T : Tm) (N : Nat) (a : Act) : Prop where
  size : a.tmps.size = N
  defers : a.defers = []
  fr : FR φ T a
noncomputable def putT (T : Tm) (d : Option Tmp) (v : Option TV) : Tm := match d with
  | some d => T.upd v (key d)
  | none => T
noncomputable def dOk (N : Nat) : Option Tmp → Bool
  | some d => Nat.blt d N
  | none => true
noncomputable def undTV : TV := .s (.c (.k undef))
/-- is the operation's guard met? -/
noncomputable def wantB (ops : List Oper) (T : Tm) (o : Oper) : Option Bool := match o.guard with
  | none => some true
  | some (j, want) => match nth ops j with
    | some p => match p.dst with
      | some d => match T.get (key d) with
        | some (.s (.c (.k (.bool b)))) => some (b == want)
        | some (.s (.c (.k (.tuple _)))) => some false
        | _ => none
      | none => some false
    | none => some false
/-- what calls are: of a function that has a body -/
noncomputable def CallOk (P : Program) (B : Nat) (call : Cl) : Prop := ∀ f l H v H', call f l H = some (v, H') → Good P f ∧ ∀ (φ : Ren) (args : Array Value) (w : World), tvsV φ l = some args.toList → SR P B φ H w → B ≤ w.heap.size →
  Calls P f args w fun e w' => ∃ u φ', e = .returned u ∧ tvV φ' v = some u ∧ Ext P B φ H w φ' H' w'
noncomputable def runO (P : Program) (call : Cl) (N : Nat) (ops : List Oper) (o : Oper) (s : Sc) : Option Sc := match dOk N o.dst with
  | true => match wantB ops s.1 o with
    | some true => match sOp P s.1 s.2 o with
      | .y r => some (putT s.1 o.dst r, s.2)
      | .d r H => some (putT s.1 o.dst r, H)
      | .e f l => match call f l s.2 with
        | some (v, H) => some (putT s.1 o.dst (some v), H)
        | none => none
      | .no => none
    | some false => some (putT s.1 o.dst (some undTV), s.2)
    | none => none
  | false => none
noncomputable def runL (P : Program) (call : Cl) (N : Nat) (ops : List Oper) (r : List Oper) : Sc → Option Sc :=
  List.rec (motive := fun _ => Sc → Option Sc) (fun s => some s) (fun o _ ih s => Option.rec (motive := fun _ => Option Sc) none (fun s' => ih s') (runO P call N ops o s)) r
theorem runL_cons {P : Program} {call : Cl} {N : Nat} {ops : List Oper} {o : Oper} {r : List Oper} {s : Sc} : runL P call N ops (o :: r) s = (match runO P call N ops o s with
  | some s' => runL P call N ops r s'
  | none => none) := by
  show Option.rec (motive := fun _ => Option Sc) none (fun s' => runL P call N ops r s') (runO P call N ops o s) = _
  cases runO P call N ops o s <;> rfl
section
variable {P : Program} {B N : Nat} {φ φ' : Ren} {T : Tm} {H : Hp} {w : World} {a : Act} {call : Cl}
theorem Fr.put (h : Fr φ T N a) (k : Le φ φ') {d : Option Tmp} {r : Option TV} {v : Value} (hd : dOk N d = true) (hr : ∀ tv, r = some tv → tvV φ' tv = some v) : Fr φ' (putT T d r) N (a.put d v) := by
  cases d with
  | none => exact ⟨h.size, h.defers, h.fr.le k⟩
  | some d =>
    have hd : d < N := Nat.blt_eq.mp hd
    refine ⟨by show (a.tmps.setIfInBounds d v).size = N; rw [Array.size_setIfInBounds]; exact h.size, h.defers, fun t tv ht => ?_⟩
    show ∃ u, (a.tmps.setIfInBounds d v)[t]? = some u ∧ _
    rw [Array.getElem?_setIfInBounds]
    by_cases e : d = t
    · subst e
      rw [if_pos rfl, if_pos (by rw [h.size]; exact hd)]
      have : r = some tv := (Tr.get_upd _ _ _).symm.trans ht
      exact ⟨v, rfl, hr tv this⟩
    · rw [if_neg e]
      have : T.get (key t) = some tv := (Tr.get_other _ _ _ _ fun q => e (key_inj q).symm).symm.trans ht
      obtain ⟨u, h1, h2⟩ := h.fr t tv this
      exact ⟨u, h1, k.tv h2⟩
theorem wantB_ok (h : FR φ T a) {ops : Array Oper} {o : Oper} {b : Bool} (hw : wantB ops.toList T o = some b) : Region.wanted o (yielded ops a.tmps) = b := by
  unfold wantB at hw
  unfold Region.wanted
  split at hw
  · rename_i e
    rw [e]
    cases hw
    rfl
  · rename_i j want e
    rw [e]
    simp only
    have hl : ops.toList[j]? = ops[j]? := Array.getElem?_toList ..
    rw [nth_eq, hl] at hw
    unfold yielded
    split at hw
    · rename_i p e1
      rw [e1]
      split at hw
      · rename_i d e2
        split at hw
        · rename_i b' e3
          obtain ⟨v, h1, h2⟩ := h d _ e3
          simp only [tvV, svV, cvV] at h2
          cases h2
          cases hw
          simp [e2, h1]
        · rename_i q e3
          obtain ⟨v, h1, h2⟩ := h d _ e3
          simp only [tvV, svV, cvV] at h2
          cases h2
          cases hw
          simp [e2, h1]
        · cases hw
      · rename_i e2
        cases hw
        simp [e2]
    · rename_i e1
      cases hw
      rw [e1]
      simp
theorem und_ok : tvV φ undTV = some undef := rfl
/-- one operation that is wanted -/
theorem op_ok (hc : CallOk P B call) {o : Oper} {T' : Tm} {H' : Hp} {Q : Exit → Act → World → Prop} {K : Act → World → Prop} (hf : Fr φ T N a) (sr : SR P B φ H w) (hB : B ≤ w.heap.size) (hd : dOk N o.dst = true)
    (hr : (match sOp P T H o with
      | .y r => some (putT T o.dst r, H)
      | .d r H => some (putT T o.dst r, H)
      | .e f l => match call f l H with
        | some (v, H) => some (putT T o.dst (some v), H)
        | none => none
      | .no => none) = some (T', H'))
    (hK : ∀ φ' a' w', Fr φ' T' N a' → Ext P B φ H w φ' H' w' → K a' w') : o.wp P a w K Q := by
  have ho := sOp_ok (P := P) (B := B) (T := T) (H := H) (o := o)
  have hev := hf.fr.ev
  split at hr
  · rename_i r e
    rw [e] at ho
    obtain ⟨v, h1, h2⟩ := ho φ a.eval w hev sr
    cases hr
    unfold Oper.wp
    rw [h2]
    exact hK φ _ w (hf.put (Le.refl _) hd h1) (Ext.refl sr)
  · rename_i r H2 e
    rw [e] at ho
    obtain ⟨n, φ', w', h1, h2, h3⟩ := ho φ a.eval w hev sr hB
    cases hr
    unfold Oper.wp
    rw [h2]
    rcases h1 with ⟨v, rfl, h1⟩ | ⟨rfl, rfl⟩
    · exact hK φ' _ w' (hf.put h3.le hd h1) h3
    · exact hK φ' _ w' (hf.put h3.le hd fun tv q => by cases q) h3
  · rename_i f l e
    rw [e] at ho
    split at hr
    · rename_i v H2 e2
      cases hr
      obtain ⟨hg, hcall⟩ := hc f l H v H' e2
      obtain ⟨args, h1, h2⟩ := ho hg φ a.eval w hev sr
      unfold Oper.wp
      rw [h2]
      refine Calls.mono (hcall φ args w h1 sr hB) ?_
      rintro _ w' ⟨u, φ', rfl, h3, h4⟩
      exact hK φ' _ w' (hf.put h4.le hd fun tv q => by cases q; exact h3) h4
    · cases hr
  · cases hr
theorem runL_ok (hc : CallOk P B call) {ops : Array Oper} {Q : Exit → Act → World → Prop} : ∀ (r : List Oper) {T T' : Tm} {H H' : Hp} {φ : Ren} {a : Act} {w : World}, runL P call N ops.toList r (T, H) = some (T', H') → Fr φ T N a → SR P B φ H w → B ≤ w.heap.size →
    (∀ φ' a' w', Fr φ' T' N a' → Ext P B φ H w φ' H' w' → Q .normal a' w') → wpList P ops Q r a w
  | [], T, T', H, H', φ, a, w, hr, hf, sr, _, hQ => by
    cases hr
    exact hQ φ a w hf (Ext.refl sr)
  | o :: r, T, T', H, H', φ, a, w, hr, hf, sr, hB, hQ => by
    rw [runL_cons] at hr
    split at hr
    · rename_i s' e
      obtain ⟨T1, H1⟩ := s'
      unfold wpList
      unfold runO at e
      split at e
      · rename_i hd
        split at e
        · rename_i hw
          rw [if_pos (wantB_ok hf.fr hw)]
          exact .inl (op_ok hc hf sr hB hd e fun φ' a' w' h1 h2 => runL_ok hc r hr h1 h2.sr (Nat.le_trans hB h2.size) fun φ2 a2 w2 h3 h4 => hQ φ2 a2 w2 h3 (h2.trans h4))
        · rename_i hw
          rw [if_neg (by rw [wantB_ok hf.fr hw]; exact Bool.false_ne_true)]
          cases e
          exact runL_ok hc r hr (hf.put (Le.refl _) hd fun tv q => by cases q; rfl) sr hB hQ
        · cases e
      · cases e
    · cases hr
end
end Ev
end Go.Proofs.YtajhndakkaniaaaGreatDoor
