/- An evaluator for closed runs: regions that draw their order: a new variable that comes early. -/
import Derived.Test.YtajhndakkaniaaaGreatDoorEvME
namespace Go.Proofs.YtajhndakkaniaaaGreatDoor
open Go

namespace Ev
section
variable {P : Program} {B N : Nat} {call : Cl} {ops : Array Oper}
/-- a block that nobody owned has a name -/
theorem Ext.adoptP {φ0 φ : Ren} {H0 G : Hp} {w0 w : World} (h : Ext P B φ0 H0 w0 φ G w) {l : Loc} {obj : Obj} {a : AO} (hb : w.heap[l.b]? = some obj) (ho : objR P (name φ G.nx l) l a obj) (h0 : w0.heap.size ≤ l.b) (hn : ∀ x o k, G.t.get x = some o → φ x = some k → k.b ≠ l.b) (hB : B ≤ w0.heap.size) :
    Ext P B φ0 H0 w0 (name φ G.nx l) (G.new a) w := by
  have hle := h.sr.le_name l
  have old : ∀ x o', x ≠ G.nx → (G.new a).t.get x = some o' → G.t.get x = some o' := fun x o' hne hx => by
    rw [← hx]
    exact (Tr.get_other _ _ _ _ hne).symm
  refine ⟨h.le.trans hle, ⟨fun x o' hx => ?_, fun x y o' q l' k hx hy hl' hk e => ?_, fun x k hk => ?_⟩, h.size, h.frame, fun x o' k hx hk => ?_, h.os, h.tape, h.output, ?_⟩
  · by_cases e : x = G.nx
    · subst e
      have : some a = some o' := (Tr.get_upd _ _ _).symm.trans hx
      cases this
      exact ⟨l, obj, name_same _ _ _, hb, ho, Nat.le_trans hB h0⟩
    · obtain ⟨k, obj', h1, h2, h3, h4⟩ := h.sr.live x o' (old x o' e hx)
      exact ⟨k, obj', hle _ _ h1, h2, h3.le hle, h4⟩
  · by_cases e1 : x = G.nx
    · by_cases e2 : y = G.nx
      · rw [e1, e2]
      · rw [name_other _ _ e2] at hk
        rw [e1, name_same] at hl'
        cases hl'
        exact absurd e.symm (hn y q k (old y q e2 hy) hk)
    · by_cases e2 : y = G.nx
      · rw [name_other _ _ e1] at hl'
        rw [e2, name_same] at hk
        cases hk
        exact absurd e (hn x o' l' (old x o' e1 hx) hl')
      · rw [name_other _ _ e1] at hl'
        rw [name_other _ _ e2] at hk
        exact h.sr.inj x y o' q l' k (old x o' e1 hx) (old y q e2 hy) hl' hk e
  · show x.num < G.nx.succ.num
    rw [Bn.num_succ]
    by_cases e : x = G.nx
    · rw [e]; omega
    · rw [name_other _ _ e] at hk
      have := h.sr.fresh x k hk
      omega
  · by_cases e : x = G.nx
    · rw [e, name_same] at hk
      cases hk
      exact .inr h0
    · rw [name_other _ _ e] at hk
      exact h.own x o' k (old x o' e hx) hk
  · show H0.nx.num ≤ G.nx.succ.num
    rw [Bn.num_succ]
    have := h.nx
    omega
theorem Ext.adopt {φ0 φ : Ren} {H0 G : Hp} {w0 w : World} (h : Ext P B φ0 H0 w0 φ G w) {l : Loc} {obj : Obj} {a : AO} (hb : w.heap[l.b]? = some obj) (ho : ∀ φ, objR P φ l a obj) (h0 : w0.heap.size ≤ l.b) (hn : ∀ x o k, G.t.get x = some o → φ x = some k → k.b ≠ l.b) (hB : B ≤ w0.heap.size) :
    Ext P B φ0 H0 w0 (name φ G.nx l) (G.new a) w := h.adoptP hb (ho _) h0 hn hB
/-- a new variable is the same wherever it is made -/
theorem alloc_any {o : Oper} {e : TypeId} {z : List CV} {n : Nat} (ho : o.op = .alloc e) (hz : zeroCs P e = some z) (hs : stSize P e = some n) (hn : Nat.beq z.length n = true) :
    ∃ obj : Obj, (∀ φ b, objR P φ ⟨b, 0, 1⟩ (.cells e false z) obj) ∧ ∀ (ρ : Operand → Value) (w : World), (execOp ρ o).run P w = .ok (.value (.pointer (some ⟨w.heap.size, 0, none⟩))) (w.alloc obj) := by
  obtain ⟨i, v, k1, k2, k3⟩ := zeroCs_ok (φ := fun _ => none) hz
  obtain ⟨i', e1, e2⟩ := stSize_ok hs
  rw [k1] at e1
  cases e1
  have hn := Nat.eq_of_beq_eq_true hn
  refine ⟨.cells v.cells e (0, 0), fun φ b => ?_, fun ρ w => ?_⟩
  · have k3 : cvsV φ z = some v.cells.toList := by
      obtain ⟨i2, v2, m1, m2, m3⟩ := zeroCs_ok (φ := φ) hz
      rw [k1] at m1
      cases m1
      rw [k2] at m2
      cases m2
      exact m3
    have hl := cvsV_len k3
    have := objR_fresh (φ := φ) (st := false) (l := ⟨b, 0, 1⟩) (cs := z) (vs := v.cells.toList) k1 rfl (by show 1 * i.size ≤ _; omega) ⟨by show _ ≤ 1 * i.size; omega, by show 1 ≤ 9223372036854775807; decide⟩ fun j q hq => by
      obtain ⟨v, h1, h2⟩ := cvsV_get k3 j q hq
      exact ⟨v, h1, h2⟩
    simpa using this
  · have hzv : (zeroValue e).run P w = .ok v w := by simp [zeroValue, typeInfo, k1, k2, go_sem]
    simp only [execOp, ho, Instr.alloc, Sem.run_bind, hzv, Result.andThen_ok, run_newVar]
    rfl
theorem resO_alloc {T : Tm} {H H' : Hp} {o : Oper} {e : TypeId} {r : Option TV} (ho : o.op = .alloc e) (h : resO P call T H o = some (r, H')) :
    ∃ z n, zeroCs P e = some z ∧ stSize P e = some n ∧ Nat.beq z.length n = true ∧ r = some (ptrTV H) ∧ H' = H.new (.cells e false z) := by
  have hs : sOp P T H o = sAlloc P H e := by
    unfold sOp
    rw [ho]
    rfl
  unfold resO at h
  rw [hs] at h
  unfold sAlloc at h
  cases hz : zeroCs P e with
  | none => rw [hz] at h; cases h
  | some z =>
    cases hn : stSize P e with
    | none => rw [hz, hn] at h; cases h
    | some n =>
      rw [hz, hn] at h
      simp only at h
      by_cases hb : Nat.beq z.length n = true
      · rw [if_pos hb] at h
        cases h
        exact ⟨z, n, rfl, rfl, hb, rfl, rfl⟩
      · rw [if_neg hb] at h
        cases h
/-- it came early: nobody owns it so far -/
structure Early (P : Program) (ops : Array Oper) (d : Dn) (lst ls : Nat → Bool) (k p : Nat) (φ : Ren) (G : Hp) (a : Act) (w0 w : World) (f : Nat) : Prop where
  kp : k < p
  pos : d.as[p]? = some f
  on : lst f = true
  off : ls f = false
  els : ∀ i, i ≠ f → ls i = lst i
  blk : ∃ (b : Nat) (t : Tmp) (o : Oper) (obj : Obj) (e : TypeId) (z : List CV), ops.toList[f]? = some o ∧ o.dst = some t ∧ o.op = .alloc e ∧ a.tmps[t]? = some (.pointer (some ⟨b, 0, none⟩)) ∧ w.heap[b]? = some obj ∧ w0.heap.size ≤ b ∧ (∀ x o l, G.t.get x = some o → φ x = some l → l.b ≠ b) ∧ zeroCs P e = some z ∧ ∀ φ, objR P φ ⟨b, 0, 1⟩ (.cells e false z) obj
noncomputable def Fl (P : Program) (ops : Array Oper) (d : Dn) (lst ls : Nat → Bool) (k p : Nat) (φ : Ren) (G : Hp) (a : Act) (w0 w : World) : Prop := (∀ i, ls i = lst i) ∨ ∃ f, Early P ops d lst ls k p φ G a w0 w f
theorem Fl.le {d : Dn} {lst ls : Nat → Bool} {k p : Nat} {φ : Ren} {G : Hp} {a : Act} {w0 w : World} (h : Fl P ops d lst ls k p φ G a w0 w) {i : Nat} (hi : ls i = true) : lst i = true := by
  rcases h with h | ⟨f, h⟩
  · rw [← h i]; exact hi
  · by_cases e : i = f
    · rw [e]; exact h.on
    · rw [← h.els i e]; exact hi
/-- another operation is listed -/
theorem Fl.put {d : Dn} {lst ls lst' ls' : Nat → Bool} {k p : Nat} {φ φ' : Ren} {G G' : Hp} {a : Act} {w0 w w' : World} (h : Fl P ops d lst ls k p φ G a w0 w) (h1 : oneW ops.toList = true) {i : Nat} {o : Oper} {u : Value} (ho : ops.toList[i]? = some o) (hn : lst i = false) (hi : lst' i = true) (hj : ∀ j, j ≠ i → lst' j = lst j) (hi' : ls' i = true) (hj' : ∀ j, j ≠ i → ls' j = ls j) (hx : Ext P B φ G w φ' G' w') : Fl P ops d lst' ls' k p φ' G' (a.put o.dst u) w0 w' := by
  rcases h with h | ⟨f, h⟩
  · refine .inl fun j => ?_
    by_cases e : j = i
    · rw [e, hi, hi']
    · rw [hj j e, hj' j e, h j]
  · have hf : f ≠ i := fun e => by
      have := h.on
      rw [e, hn] at this
      cases this
    refine .inr ⟨f, h.kp, h.pos, by rw [hj f hf]; exact h.on, by rw [hj' f hf]; exact h.off, fun j hjf => ?_, ?_⟩
    · by_cases e : j = i
      · rw [e, hi, hi']
      · rw [hj j e, hj' j e, h.els j hjf]
    · obtain ⟨b, t, of, obj, e, z, m1, m2, m3, m4, m5, m6, m7, m8, m9⟩ := h.blk
      have hbw : b < w.heap.size := (Array.getElem?_eq_some_iff.1 m5).1
      refine ⟨b, t, of, obj, e, z, m1, m2, m3, ?_, ?_, m6, fun x q l hl hφ eb => ?_, m8, m9⟩
      · cases eo : o.dst with
        | none => exact m4
        | some s =>
          show (a.tmps.setIfInBounds s u)[t]? = _
          rw [Array.getElem?_setIfInBounds, if_neg]
          · exact m4
          · intro q
            subst q
            exact hf (oneW_ok h1 f i of o s m1 ho m2 eo)
      · rw [hx.frame b hbw m7]
        exact m5
      · rcases hx.own x q l hl hφ with ⟨y, q', k', n1, n2, n3⟩ | n1
        · exact m7 y q' k' n1 n2 (n3.trans eb)
        · omega
end
end Ev
end Go.Proofs.YtajhndakkaniaaaGreatDoor
