/- An evaluator for closed runs: code, functions. -/
import Derived.Test.YtajhndakkaniaaaGreatDoorEvMD
import Derived.Orders
namespace Go.Proofs.YtajhndakkaniaaaGreatDoor
open Go

namespace Ev
inductive Ex where
  | normal
  | exit (id : Nat)
  | ret
noncomputable def Ex.of : Ex → Exit
  | .normal => .normal
  | .exit id => .exit id
  | .ret => .ret
abbrev Dr := Nat → Array Oper → Sc → Option Sc
noncomputable def DrawOk (P : Program) (B : Nat) (draw : Dr) : Prop := ∀ (N : Nat) (ops : Array Oper) (T : Tm) (H : Hp) (T' : Tm) (H' : Hp), draw N ops (T, H) = some (T', H') → ∀ (φ : Ren) (a : Act) (w : World) (Q : Exit → Act → World → Prop) (id : Nat), Fr φ T N a → SR P B φ H w → B ≤ w.heap.size →
  (∀ φ' a' w', Fr φ' T' N a' → Ext P B φ H w φ' H' w' → Q .normal a' w') → (Code.region id ops true).wp P Q a w
noncomputable def evL (ev : Sc → Option (Ex × Sc)) (n : Nat) : Sc → Option (Ex × Sc) :=
  Nat.rec (motive := fun _ => Sc → Option (Ex × Sc)) (fun _ => none) (fun _ ih s => match ev s with
    | some (.normal, s') => ih s'
    | r => r) n
theorem evL_succ {ev : Sc → Option (Ex × Sc)} {n : Nat} {s : Sc} : evL ev (n + 1) s = (match ev s with
    | some (.normal, s') => evL ev n s'
    | r => r) := rfl
abbrev EvT := Sc → Option (Ex × Sc)
/-- of each kind of code: closed branches -/
noncomputable def evCF (c : Code) : Program → Cl → Dr → Nat → (Code → EvT) → Nat → EvT := Code.casesOn (motive := fun _ => Program → Cl → Dr → Nat → (Code → EvT) → Nat → EvT) c
  (fun _ _ _ _ _ _ s => some (.normal, s))
  (fun _ ops d P call draw N _ _ s => match d with
    | true => match draw N ops s with
      | some s' => some (.normal, s')
      | none => none
    | false => match runL P call N ops.toList ops.toList s with
      | some s' => some (.normal, s')
      | none => none)
  (fun x y _ _ _ _ ev _ s => match ev x s with
    | some (.normal, s') => ev y s'
    | r => r)
  (fun c x y _ _ _ _ ev _ s => match opk s.1 c with
    | some (.bool true) => ev x s
    | some (.bool false) => ev y s
    | _ => none)
  (fun id c _ _ _ _ ev _ s => match ev c s with
    | some (.exit j, s') => match Nat.beq j id with
      | true => some (.normal, s')
      | false => some (.exit j, s')
    | r => r)
  (fun c _ _ _ _ ev n s => evL (ev c) n s)
  (fun _ _ _ _ _ _ _ _ _ _ _ => none)
  (fun id _ _ _ _ _ _ s => some (.exit id, s))
  (fun _ _ _ _ _ _ _ _ => none)
  (fun _ _ _ _ _ _ _ s => some (.normal, s))
  (fun _ _ _ _ _ _ _ _ => none)
  (fun _ _ _ _ _ _ s => some (.ret, s))
  (fun _ _ _ _ _ _ _ _ => none)
noncomputable def evC (P : Program) (call : Cl) (draw : Dr) (N n : Nat) : Code → EvT :=
  Nat.rec (motive := fun _ => Code → EvT) (fun _ _ => none) (fun n ih c s => evCF c P call draw N ih n s) n
theorem evC_def (P : Program) (call : Cl) (draw : Dr) (N n : Nat) (c : Code) (s : Sc) : evC P call draw N (n + 1) c s = (match c with
  | .skip => some (.normal, s)
  | .label _ => some (.normal, s)
  | .exit id => some (.exit id, s)
  | .ret => some (.ret, s)
  | .region _ ops d => match d with
    | true => match draw N ops s with
      | some s' => some (.normal, s')
      | none => none
    | false => match runL P call N ops.toList ops.toList s with
      | some s' => some (.normal, s')
      | none => none
  | .seq x y => match evC P call draw N n x s with
    | some (.normal, s') => evC P call draw N n y s'
    | r => r
  | .cond c x y => match opk s.1 c with
    | some (.bool true) => evC P call draw N n x s
    | some (.bool false) => evC P call draw N n y s
    | _ => none
  | .block id c => match evC P call draw N n c s with
    | some (.exit j, s') => match Nat.beq j id with
      | true => some (.normal, s')
      | false => some (.exit j, s')
    | r => r
  | .loop c => evL (evC P call draw N n c) n s
  | _ => none) := by
  cases c <;> rfl
noncomputable def argsT (l : List TV) : Nat → Tm → Tm :=
  List.rec (motive := fun _ => Nat → Tm → Tm) (fun _ T => T) (fun v _ ih i T => ih (i + 1) (T.upd (some v) (key i))) l
noncomputable def resA (P : Program) (T : Tm) (H : Hp) : List ResultVar → Option (List SV)
  | [] => some []
  | .tmp t :: r => match T.get (key t) with
    | some (.s v) => match resA P T H r with
      | some l => some (v :: l)
      | none => none
    | _ => none
  | .cell a t :: r => match T.get (key a) with
    | some (.s (.c (.p b q))) => match H.cells b with
      | some (_, _, cs) => match stSize P t, isAggT P t with
        | some n, some g => match ldN cs q n with
          | some c => match svOf g c with
            | some v => match resA P T H r with
              | some l => some (v :: l)
              | none => none
            | none => none
          | none => none
        | _, _ => none
      | none => none
    | _ => none
abbrev Pr := FuncId → Option (List TV → Hp → Option (TV × Hp))
noncomputable def retV : Option (List SV) → Hp → Option (TV × Hp)
  | some [v], H => some (.s v, H)
  | some l, H => some (.t l, H)
  | none, _ => none
noncomputable def evB (P : Program) (call : Cl) (draw : Dr) (fn : Func) (c : Code) (args : List TV) (H : Hp) : Option (TV × Hp) := match evC P call draw (args.length + (fn.ntmps - args.length)) 100000 c (argsT args 0 .nil, H) with
  | some (.normal, s) => retV (resA P s.1 s.2 fn.results.toList) s.2
  | some (.ret, s) => retV (resA P s.1 s.2 fn.results.toList) s.2
  | _ => none
/-- a function's body -/
noncomputable def evG (P : Program) (call : Cl) (draw : Dr) : Cl := fun f args H => match lookP P.funcs.toList f with
  | some fn => match fn.body with
    | some c => evB P call draw fn c args H
    | none => none
  | none => none
noncomputable def evF (P : Program) (prim : Pr) (draw : Cl → Dr) : Nat → Cl
  | 0, _, _, _ => none
  | n + 1, f, args, H => match prim f with
    | some g => match g args H with
      | some r => some r
      | none => evG P (evF P prim draw n) (draw (evF P prim draw n)) f args H
    | none => evG P (evF P prim draw n) (draw (evF P prim draw n)) f args H
section
variable {P : Program} {B N : Nat} {φ φ' : Ren} {T : Tm} {H : Hp} {w : World} {a : Act} {call : Cl} {draw : Dr}
theorem evL_ok {c : Code} {ev : Sc → Option (Ex × Sc)}
    (hev : ∀ {T : Tm} {H : Hp} {x : Ex} {T' : Tm} {H' : Hp}, ev (T, H) = some (x, (T', H')) → ∀ (φ : Ren) (a : Act) (w : World) (Q : Exit → Act → World → Prop), Fr φ T N a → SR P B φ H w → B ≤ w.heap.size → (∀ φ' a' w', Fr φ' T' N a' → Ext P B φ H w φ' H' w' → Q x.of a' w') → c.wp P Q a w) :
    ∀ (n : Nat) {T : Tm} {H : Hp} {x : Ex} {T' : Tm} {H' : Hp}, evL ev n (T, H) = some (x, (T', H')) → ∀ (φ : Ren) (a : Act) (w : World) (Q : Exit → Act → World → Prop), Fr φ T N a → SR P B φ H w → B ≤ w.heap.size → (∀ φ' a' w', Fr φ' T' N a' → Ext P B φ H w φ' H' w' → Q x.of a' w') → Code.rounds P c Q n a w
  | 0, _, _, _, _, _, h, _, _, _, _, _, _, _, _ => by cases h
  | n + 1, T, H, x, T', H', h, φ, a, w, Q, hf, sr, hB, hQ => by
    rw [evL_succ] at h
    rw [rounds_succ]
    cases e : ev (T, H) with
    | none => rw [e] at h; cases h
    | some r =>
      obtain ⟨x1, T1, H1⟩ := r
      rw [e] at h
      refine hev e φ a w _ hf sr hB fun φ1 a1 w1 h1 h2 => ?_
      cases x1 with
      | normal => exact evL_ok hev n h φ1 a1 w1 Q h1 h2.sr (Nat.le_trans hB h2.size) fun φ2 a2 w2 h3 h4 => hQ φ2 a2 w2 h3 (h2.trans h4)
      | exit id => cases h; exact hQ φ1 a1 w1 h1 h2
      | ret => cases h; exact hQ φ1 a1 w1 h1 h2
theorem evC_ok (hc : CallOk P B call) (hd : DrawOk P B draw) : ∀ (n : Nat) (c : Code) {T : Tm} {H : Hp} {x : Ex} {T' : Tm} {H' : Hp}, evC P call draw N n c (T, H) = some (x, (T', H')) → ∀ (φ : Ren) (a : Act) (w : World) (Q : Exit → Act → World → Prop), Fr φ T N a → SR P B φ H w → B ≤ w.heap.size → (∀ φ' a' w', Fr φ' T' N a' → Ext P B φ H w φ' H' w' → Q x.of a' w') → c.wp P Q a w
  | 0, c, _, _, _, _, _, h, _, _, _, _, _, _, _, _ => by cases h
  | n + 1, c, T, H, x, T', H', h, φ, a, w, Q, hf, sr, hB, hQ => by
    rw [evC_def] at h
    split at h
    · cases h
      exact wp_skip (hQ φ a w hf (Ext.refl sr))
    · cases h
      exact wp_label (hQ φ a w hf (Ext.refl sr))
    · cases h
      exact wp_exit (hQ φ a w hf (Ext.refl sr))
    · cases h
      exact wp_ret (hQ φ a w hf (Ext.refl sr))
    · split at h
      · split at h
        · rename_i s' e
          obtain ⟨T1, H1⟩ := s'
          cases h
          exact hd N _ T H _ _ e φ a w Q _ hf sr hB hQ
        · cases h
      · split at h
        · rename_i s' e
          obtain ⟨T1, H1⟩ := s'
          cases h
          exact wp_region_list (runL_ok hc _ e hf sr hB hQ)
        · cases h
    · rename_i x1 y
      refine wp_seq ?_
      cases e : evC P call draw N n x1 (T, H) with
      | none => rw [e] at h; cases h
      | some r =>
        obtain ⟨x2, T1, H1⟩ := r
        rw [e] at h
        refine evC_ok hc hd n x1 e φ a w _ hf sr hB fun φ1 a1 w1 h1 h2 => ?_
        cases x2 with
        | normal => exact evC_ok hc hd n y h φ1 a1 w1 Q h1 h2.sr (Nat.le_trans hB h2.size) fun φ2 a2 w2 h3 h4 => hQ φ2 a2 w2 h3 (h2.trans h4)
        | exit id => cases h; exact hQ φ1 a1 w1 h1 h2
        | ret => cases h; exact hQ φ1 a1 w1 h1 h2
    · split at h
      · rename_i e
        exact wp_cond_true (opk_ok hf.fr.ev e) (evC_ok hc hd n _ h φ a w Q hf sr hB hQ)
      · rename_i e
        exact wp_cond_false (opk_ok hf.fr.ev e) (evC_ok hc hd n _ h φ a w Q hf sr hB hQ)
      · cases h
    · rename_i id c1
      refine wp_block ?_
      cases e : evC P call draw N n c1 (T, H) with
      | none => rw [e] at h; cases h
      | some r =>
        obtain ⟨x2, T1, H1⟩ := r
        rw [e] at h
        refine evC_ok hc hd n c1 e φ a w _ hf sr hB fun φ1 a1 w1 h1 h2 => ?_
        cases x2 with
        | normal => cases h; exact hQ φ1 a1 w1 h1 h2
        | exit j =>
          simp only at h
          show (if j = id then Q .normal a1 w1 else Q (.exit j) a1 w1)
          split at h
          · rename_i e2
            cases h
            rw [if_pos (Nat.eq_of_beq_eq_true e2)]
            exact hQ φ1 a1 w1 h1 h2
          · rename_i e2
            cases h
            rw [if_neg (fun q => by rw [q, Nat.beq_refl] at e2; cases e2)]
            exact hQ φ1 a1 w1 h1 h2
        | ret => cases h; exact hQ φ1 a1 w1 h1 h2
    · exact wp_loop_rounds n (evL_ok (fun h => evC_ok hc hd n _ h) n h φ a w Q hf sr hB hQ)
    · cases h
theorem argsT_get : ∀ (l : List TV) (i : Nat) (T : Tm) (t : Nat), (argsT l i T).get (key t) = if i ≤ t ∧ t < i + l.length then l[t - i]? else T.get (key t)
  | [], i, T, t => by
    rw [if_neg (by rw [List.length_nil]; omega)]
    rfl
  | v :: r, i, T, t => by
    show (argsT r (i + 1) (T.upd (some v) (key i))).get (key t) = _
    rw [argsT_get r (i + 1)]
    by_cases h1 : i + 1 ≤ t ∧ t < i + 1 + r.length
    · rw [if_pos h1, if_pos ⟨by omega, by rw [List.length_cons]; omega⟩, show t - i = (t - (i + 1)) + 1 by omega]
      rfl
    · rw [if_neg h1]
      by_cases h2 : t = i
      · subst h2
        rw [Tr.get_upd, if_pos ⟨by omega, by rw [List.length_cons]; omega⟩, Nat.sub_self]
        rfl
      · rw [Tr.get_other _ _ _ _ fun q => h2 (key_inj q), if_neg (by rw [List.length_cons]; omega)]
theorem tvsV_len : ∀ {l : List TV} {vs : List Value}, tvsV φ l = some vs → vs.length = l.length
  | [], vs, h => by cases h; rfl
  | x :: r, vs, h => by
    simp only [tvsV] at h
    cases h1 : tvV φ x with
    | none => rw [h1] at h; cases h
    | some v =>
      cases h2 : tvsV φ r with
      | none => rw [h1, h2] at h; cases h
      | some q =>
        rw [h1, h2] at h
        cases h
        rw [List.length_cons, List.length_cons, tvsV_len h2]
theorem tvsV_get : ∀ {l : List TV} {vs : List Value}, tvsV φ l = some vs → ∀ (i : Nat) (c : TV), l[i]? = some c → ∃ v, vs[i]? = some v ∧ tvV φ c = some v
  | [], _, _, i, c, h => by cases i <;> cases h
  | c :: r, vs, h, i, q, hi => by
    simp only [tvsV] at h
    cases h1 : tvV φ c with
    | none => rw [h1] at h; cases h
    | some v =>
      cases h2 : tvsV φ r with
      | none => rw [h1, h2] at h; cases h
      | some l =>
        rw [h1, h2] at h
        cases h
        cases i with
        | zero => cases hi; exact ⟨v, rfl, h1⟩
        | succ i => exact tvsV_get h2 i q hi
theorem args_fr {l : List TV} {args : Array Value} {n : Nat} (h : tvsV φ l = some args.toList) : Fr φ (argsT l 0 .nil) (l.length + (n - l.length)) { tmps := args ++ Array.replicate (n - args.size) undef, defers := [] } := by
  have hl : args.size = l.length := by
    have := tvsV_len h
    rwa [Array.length_toList] at this
  refine ⟨by simp [hl], rfl, fun t tv ht => ?_⟩
  rw [argsT_get] at ht
  split at ht
  · rename_i e
    obtain ⟨v, h1, h2⟩ := tvsV_get h (t - 0) tv ht
    refine ⟨v, ?_, h2⟩
    show (args ++ Array.replicate (n - args.size) undef)[t]? = some v
    rw [Array.getElem?_append_left (by omega)]
    rw [Nat.sub_zero, Array.getElem?_toList] at h1
    exact h1
  · rw [Tr.get_nil] at ht
    cases ht
theorem loadVar_ok (sr : SR P B φ H w) {b : Bn} {l : Loc} {T' : TypeId} {st : Bool} {cs r : List CV} {t : TypeId} {n q : Nat} {g : Bool} {v : SV} (hb : H.cells b = some (T', st, cs)) (hl : φ b = some l) (hi : stSize P t = some n) (hg : isAggT P t = some g) (hr : ldN cs q n = some r) (hs : svOf g r = some v) : ∃ u, svV φ v = some u ∧ (loadVar t ⟨l.b, l.s + q, none⟩).run P w = .ok u w := by
  obtain ⟨i, e1, e2⟩ := stSize_ok hi
  obtain ⟨vs, k1, k2, k3⟩ := row_at sr hb hr hl
  cases g with
  | true =>
    cases hs
    refine ⟨.agg vs.toArray, by simp only [svV, k1], ?_⟩
    have hl := run_loadCells_list (P := P) w ⟨l.b, l.s + q, none⟩ vs k3
    rw [k2] at hl
    simp only [loadCells] at hl
    simp [loadVar, run_isAgg hg, sizeOf, typeInfo, e1, e2, hl, go_sem]
  | false =>
    unfold svOf at hs
    simp only at hs
    split at hs
    · rename_i c
      cases hs
      obtain ⟨u, vs', m1, m2, m3⟩ := cvsV_cons k1
      cases m2
      subst m3
      refine ⟨u, m1, ?_⟩
      have hcell := k3 0 u rfl
      rw [addr_add, Nat.add_zero] at hcell
      simp [loadVar, run_isAgg hg, load, hcell, Sem.run, go_sem]
    · cases hs
noncomputable def resOne (tmps : Array Value) : ResultVar → Sem Value
  | .tmp t => pure (tmps.getD t undef)
  | .cell a t => do loadVar t (← asAddr (tmps.getD a undef))
theorem resA_ok (hf : FR φ T a) (sr : SR P B φ H w) : ∀ {rs : List ResultVar} {l : List SV}, resA P T H rs = some l → ∃ vs, svsV φ l = some vs ∧ (rs.mapM (resOne a.tmps)).run P w = .ok vs w
  | [], l, h => by
    cases h
    exact ⟨[], rfl, rfl⟩
  | .tmp t :: r, l, h => by
    simp only [resA] at h
    split at h
    · rename_i v e1
      split at h
      · rename_i l' e2
        cases h
        obtain ⟨u, h1, h2⟩ := hf t _ e1
        obtain ⟨vs, h3, h4⟩ := resA_ok hf sr e2
        simp only [tvV] at h2
        refine ⟨u :: vs, by simp only [svsV, h2, h3], ?_⟩
        rw [List.mapM_cons]
        have e3 : (resOne a.tmps (.tmp t)).run P w = .ok u w := by
          simp [resOne, Array.getD_eq_getD_getElem?, h1]
        simp only [Sem.run_bind, e3, Result.andThen_ok, h4]
        rfl
      · cases h
    · cases h
  | .cell x t :: r, l, h => by
    simp only [resA] at h
    split at h
    · rename_i b q e1
      split at h
      · rename_i T' st cs e2
        split at h
        · rename_i n g e3 e4
          split at h
          · rename_i c e5
            split at h
            · rename_i v e6
              split at h
              · rename_i l' e7
                cases h
                obtain ⟨u, h1, h2⟩ := hf x _ e1
                obtain ⟨vs, h3, h4⟩ := resA_ok hf sr e7
                simp only [tvV, svV, cvV, ptrV] at h2
                split at h2
                · rename_i l0 e8
                  injection h2 with h2
                  obtain ⟨u2, h5, h6⟩ := loadVar_ok sr e2 e8 e3 e4 e5 e6
                  refine ⟨u2 :: vs, by simp only [svsV, h5, h3], ?_⟩
                  rw [List.mapM_cons]
                  have e9 : (resOne a.tmps (.cell x t)).run P w = .ok u2 w := by
                    have ha : a.tmps.getD x undef = .pointer (some ⟨l0.b, l0.s + q, none⟩) := by
                      rw [Array.getD_eq_getD_getElem?, h1]
                      exact h2.symm
                    simp only [resOne, ha, asAddr, Sem.run_bind, Sem.run_pure, Result.andThen_ok, h6]
                  simp only [Sem.run_bind, e9, Result.andThen_ok, h4]
                  rfl
                · cases h2
              · cases h
            · cases h
          · cases h
        · cases h
      · cases h
    · cases h
theorem svsV_len : ∀ {l : List SV} {vs : List Value}, svsV φ l = some vs → vs.length = l.length
  | [], vs, h => by cases h; rfl
  | x :: r, vs, h => by
    simp only [svsV] at h
    cases h1 : svV φ x with
    | none => rw [h1] at h; cases h
    | some v =>
      cases h2 : svsV φ r with
      | none => rw [h1, h2] at h; cases h
      | some q =>
        rw [h1, h2] at h
        cases h
        rw [List.length_cons, List.length_cons, svsV_len h2]
theorem results_ok (hf : FR φ T a) (sr : SR P B φ H w) {fn : Func} {v : TV} {H' : Hp} (h : retV (resA P T H fn.results.toList) H = some (v, H')) : H' = H ∧ ∃ u, tvV φ v = some u ∧ (results fn a.tmps).run P w = .ok u w := by
  cases hr : resA P T H fn.results.toList with
  | none => rw [hr] at h; cases h
  | some l =>
    rw [hr] at h
    obtain ⟨vs, h1, h2⟩ := resA_ok hf sr hr
    have e : (List.toArray <$> fn.results.toList.mapM (resOne a.tmps) : Sem (Array Value)) = (fn.results.toList.mapM (resOne a.tmps) >>= fun x => pure x.toArray) := rfl
    have hm : (fn.results.mapM (resOne a.tmps)).run P w = .ok vs.toArray w := by
      rw [Array.mapM_eq_mapM_toList, e, Sem.run_bind, h2]
      rfl
    have hres : (results fn a.tmps).run P w = .ok (if h : vs.toArray.size = 1 then vs.toArray[0] else .tuple vs.toArray) w := by
      unfold results
      rw [Sem.run_bind]
      show ((fn.results.mapM (resOne a.tmps)).run P w).andThen _ = _
      rw [hm]
      rfl
    have hlen := svsV_len h1
    unfold retV at h
    split at h
    · rename_i v1 e1
      cases e1
      cases h
      obtain ⟨u, h3, h4⟩ := svsV_get h1 0 v1 rfl
      match vs, hlen, h3, hres with
      | [u'], _, h3, hres =>
        cases h3
        exact ⟨rfl, u, h4, hres⟩
    · rename_i l' hne e1
      cases e1
      cases h
      refine ⟨rfl, .tuple vs.toArray, by simp only [tvV, h1], ?_⟩
      rw [hres, dif_neg]
      intro hs
      have : l.length = 1 := by simpa [hlen] using hs
      match l, this with
      | [x], _ => exact hne x rfl
    · rename_i e1
      cases e1
theorem evB_ok (hc : CallOk P B call) (hd : DrawOk P B draw) {f : FuncId} {fn : Func} {c : Code} {l : List TV} {v : TV} {H' : Hp} (h1 : P.funcs[f]? = some fn) (h2 : fn.body = some c) (h : evB P call draw fn c l H = some (v, H')) {args : Array Value} (ha : tvsV φ l = some args.toList) (sr : SR P B φ H w) (hB : B ≤ w.heap.size) :
    Calls P f args w fun e w' => ∃ u φ', e = .returned u ∧ tvV φ' v = some u ∧ Ext P B φ H w φ' H' w' := by
  refine calls_of_wp h1 h2 ?_
  have hfr := args_fr (n := fn.ntmps) ha
  unfold evB at h
  split at h
  · rename_i s e
    obtain ⟨T1, H1⟩ := s
    refine evC_ok hc hd _ _ e φ _ w _ hfr sr hB fun φ1 a1 w1 k1 k2 => ?_
    obtain ⟨rfl, u, k3, k4⟩ := results_ok k1.fr k2.sr h
    exact ⟨k1.defers, u, k4, u, φ1, rfl, k3, k2⟩
  · rename_i s e
    obtain ⟨T1, H1⟩ := s
    refine evC_ok hc hd _ _ e φ _ w _ hfr sr hB fun φ1 a1 w1 k1 k2 => ?_
    obtain ⟨rfl, u, k3, k4⟩ := results_ok k1.fr k2.sr h
    exact ⟨k1.defers, u, k4, u, φ1, rfl, k3, k2⟩
  · cases h
/-- what is given of functions that are not looked into -/
noncomputable def PrimOk (P : Program) (B : Nat) (prim : Pr) : Prop := ∀ f g, prim f = some g → ∀ l H v H', g l H = some (v, H') → Good P f ∧ ∀ (φ : Ren) (args : Array Value) (w : World), tvsV φ l = some args.toList → SR P B φ H w → B ≤ w.heap.size →
  Calls P f args w fun e w' => ∃ u φ', e = .returned u ∧ tvV φ' v = some u ∧ Ext P B φ H w φ' H' w'
/-- no function counts goroutines -/
noncomputable def Calm (P : Program) : Prop := ∀ (f : FuncId) (fn : Func), P.funcs[f]? = some fn → (fn.name == "runtime.NumGoroutine") = false
theorem evG_ok {call : Cl} {draw : Dr} (hN : Calm P) (ih : CallOk P B call) (hd : DrawOk P B draw) {f : FuncId} {l : List TV} {H : Hp} {v : TV} {H' : Hp} (h : evG P call draw f l H = some (v, H')) : Good P f ∧ ∀ (φ : Ren) (args : Array Value) (w : World), tvsV φ l = some args.toList → SR P B φ H w → B ≤ w.heap.size →
    Calls P f args w fun e w' => ∃ u φ', e = .returned u ∧ tvV φ' v = some u ∧ Ext P B φ H w φ' H' w' := by
  unfold evG at h
  split at h
  · rename_i fn e
    rw [lookP_eq, Array.getElem?_toList] at e
    split at h
    · rename_i c e2
      exact ⟨⟨fn, c, e, e2, hN f fn e⟩, fun φ args w ha sr hB => evB_ok ih hd e e2 h ha sr hB⟩
    · cases h
  · cases h
theorem evF_ok {prim : Pr} {dr : Cl → Dr} (hp : PrimOk P B prim) (hN : Calm P) (hd : ∀ call, CallOk P B call → DrawOk P B (dr call)) : ∀ n, CallOk P B (evF P prim dr n)
  | 0 => fun _ _ _ _ _ h => by cases h
  | n + 1 => fun f l H v H' h => by
    have ih := evF_ok hp hN hd n
    simp only [evF] at h
    split at h
    · rename_i g e
      split at h
      · rename_i r e1
        cases h
        exact hp f g e l H v H' e1
      · exact evG_ok hN ih (hd _ ih) h
    · exact evG_ok hN ih (hd _ ih) h
end
end Ev
end Go.Proofs.YtajhndakkaniaaaGreatDoor
/- An evaluator for closed runs: an operation looks at its own operands only. -/
namespace Go.Proofs.YtajhndakkaniaaaGreatDoor
open Go

namespace Ev
section
variable {P : Program} {T T' : Tm} {H : Hp}
theorem opk_congr {x : Operand} (h : opd T x = opd T' x) : opk T x = opk T' x := by unfold opk; rw [h]
theorem opi_congr {x : Operand} (h : opd T x = opd T' x) : opi T x = opi T' x := by unfold opi; rw [opk_congr h]
theorem opp_congr {x : Operand} (h : opd T x = opd T' x) : opp T x = opp T' x := by unfold opp; rw [h]
theorem ops_congr {x : Operand} (h : opd T x = opd T' x) : ops' T x = ops' T' x := by unfold ops'; rw [h]
theorem opa_congr {x : Operand} (h : opd T x = opd T' x) : opa T x = opa T' x := by unfold opa; rw [h]
theorem opm_congr {x : Operand} (h : opd T x = opd T' x) : opm T x = opm T' x := by unfold opm; rw [h]
theorem opsv_congr {x : Operand} (h : opd T x = opd T' x) : opsv T x = opsv T' x := by unfold opsv; rw [h]
theorem opds_congr : ∀ {l : List Operand}, (∀ x ∈ l, opd T x = opd T' x) → opds T l = opds T' l
  | [], _ => rfl
  | x :: r, h => by
    simp only [opds]
    rw [h x List.mem_cons_self, opds_congr fun y hy => h y (List.mem_cons_of_mem _ hy)]
theorem oppts_congr : ∀ {l : List Operand}, (∀ x ∈ l, opd T x = opd T' x) → oppts T l = oppts T' l
  | [], _ => rfl
  | x :: r, h => by
    simp only [oppts]
    rw [opp_congr (h x List.mem_cons_self), oppts_congr fun y hy => h y (List.mem_cons_of_mem _ hy)]
theorem partsOne_congr : ∀ {l : List (Nat × Operand)}, (∀ x ∈ l.map (·.2), opd T x = opd T' x) → partsOne T l = partsOne T' l
  | [], _ => rfl
  | (i, x) :: r, h => by
    simp only [partsOne]
    rw [opsv_congr (h x (by simp)), partsOne_congr fun y hy => h y (by rw [List.map_cons]; exact List.mem_cons_of_mem _ hy)]
theorem fillA_congr {pl : List (Nat × Nat)} : ∀ {l : List (Nat × Operand)} {cs : List CV}, (∀ x ∈ l.map (·.2), opd T x = opd T' x) → fillA pl T cs l = fillA pl T' cs l
  | [], _, _ => rfl
  | (i, x) :: r, cs, h => by
    simp only [fillA]
    rw [opsv_congr (h x (by simp))]
    cases pl[i]? with
    | none => rfl
    | some q =>
      cases opsv T' x with
      | none => rfl
      | some v =>
        simp only
        split
        · split
          · exact fillA_congr fun y hy => h y (by rw [List.map_cons]; exact List.mem_cons_of_mem _ hy)
          · rfl
        · rfl
theorem bnd_congr {d : Nat} {x : Option Operand} (h : ∀ y ∈ x.toArray, opd T y = opd T' y) : bnd T d x = bnd T' d x := by
  cases x with
  | none => rfl
  | some q =>
    simp only [bnd]
    rw [opi_congr (h q (by simp))]
theorem sBi_congr {bi : Builtin} {args : List Operand} {ats : List TypeId} (h : ∀ x ∈ args, opd T x = opd T' x) : sBi P T H bi args ats = sBi P T' H bi args ats := by
  unfold sBi
  split
  · simp only [sLen, h _ (List.mem_cons_self)]
  · rename_i s x t t'
    simp only [sApp, h s (by simp), h x (by simp)]
  · rename_i x y _ _
    simp only [sMinMax, opk_congr (h x (by simp)), opk_congr (h y (by simp)), h x (by simp), h y (by simp)]
  · rename_i x y _ _
    simp only [sMinMax, opk_congr (h x (by simp)), opk_congr (h y (by simp)), h x (by simp), h y (by simp)]
  · simp only [sClear, h _ (List.mem_cons_self)]
  · rename_i s x t _
    simp only [sCopy, h s (by simp), h x (by simp)]
  · rename_i x ix t _
    simp only [sDel, sDelI, opm_congr (h x (by simp)), opa_congr (h ix (by simp)), opk_congr (h ix (by simp))]
  · rfl
theorem sOp_congr {o : Oper} (h : ∀ x ∈ o.op.operands, opd T x = opd T' x) : sOp P T H o = sOp P T' H o := by
  obtain ⟨dst, op, type, pos, after, guard⟩ := o
  rw [sOp_def, sOp_def]
  cases op <;> (try simp only [Op.operands] at h) <;> (try simp only)
  case move x => rw [h x (by simp)]
  case assign x => rw [h x (by simp)]
  case pick c x y =>
    simp only [sPick, opk_congr (h c (by simp))]
    have e : ∀ t : Bool, opd T (if t then x else y) = opd T' (if t then x else y) := fun t => by cases t <;> simp [h x, h y]
    simp only [e]
  case box e x => simp only [sBox, opsv_congr (h x (by simp))]
  case build t ps =>
    have e : ∀ x ∈ ps.toList.map (·.2), opd T x = opd T' x := fun x hx => h x (by simpa using hx)
    simp only [sBuild, partsOne_congr e, fillA_congr e]
  case buildSlice t n ps =>
    have e : ∀ x ∈ ps.toList.map (·.2), opd T x = opd T' x := fun x hx => h x (by simpa using hx)
    simp only [sBuildS, partsOne_congr e, fillA_congr e]
  case load t x => simp only [sLoad, opp_congr (h x (by simp))]
  case store t x v => simp only [sStore, opp_congr (h x (by simp)), opsv_congr (h v (by simp))]
  case nilCheck x => simp only [sNil, opp_congr (h x (by simp))]
  case binOp op t x y t' => simp only [sBin, sKeys, opk_congr (h x (by simp)), opk_congr (h y (by simp)), opa_congr (h x (by simp)), opa_congr (h y (by simp)), h x (by simp), h y (by simp)]
  case unOp op t x =>
    cases op <;> first | exact rfl | simp only [sNot, opk_congr (h x (by simp))]
  case makeMap t r => cases r <;> rfl
  case convert s t x => simp only [sConv, opk_congr (h x (by simp)), ops_congr (h x (by simp))]
  case makeInterface t x => simp only [sIfc, opp_congr (h x (by simp)), h x (by simp)]
  case makeFunc fn first caps =>
    have e : ∀ x ∈ caps.toList, opd T x = opd T' x := fun x hx => h x (by simp at hx; simp [hx])
    cases fn with
    | func f =>
      obtain ⟨l⟩ := first
      cases l with
      | nil => simp only [sFunc, oppts_congr e]
      | cons _ _ => exact rfl
    | _ => exact rfl
  case makeSlice t l c => simp only [sMake, opi_congr (h l (by simp)), opi_congr (h c (by simp))]
  case slice t x lo hi mx =>
    have e1 : ∀ d, bnd T d lo = bnd T' d lo := fun d => bnd_congr fun y hy => h y (by simp at hy; simp [hy])
    have e2 : ∀ d, bnd T d hi = bnd T' d hi := fun d => bnd_congr fun y hy => h y (by simp at hy; simp [hy])
    have e3 : ∀ d, bnd T d mx = bnd T' d mx := fun d => bnd_congr fun y hy => h y (by simp at hy; simp [hy])
    cases mx with
    | none => simp only [sSlice, ops_congr (h x (by simp)), opk_congr (h x (by simp)), e1, e2]
    | some m => simp only [sSlice, ops_congr (h x (by simp)), opk_congr (h x (by simp)), e1, e2, e3]
  case fieldAddr t x f => simp only [sField, opp_congr (h x (by simp))]
  case indexAddr t x ix => simp only [sIxA, ops_congr (h x (by simp)), opp_congr (h x (by simp)), opi_congr (h ix (by simp))]
  case index t x ix => simp only [sIx, h x (by simp), opi_congr (h ix (by simp))]
  case lookup t x ix ok =>
    cases ok <;> simp only [sLook, sLookI, opm_congr (h x (by simp)), opa_congr (h ix (by simp)), opk_congr (h ix (by simp))]
  case mapUpdate t x ix v => simp only [sUpd, sUpdI, opm_congr (h x (by simp)), opa_congr (h ix (by simp)), opk_congr (h ix (by simp)), h v (by simp)]
  case extract x i => simp only [sExtr, h x (by simp)]
  case call c =>
    obtain ⟨k, args, ats⟩ := c
    have e : ∀ x ∈ args.toList, opd T x = opd T' x := fun x hx => h x (by simp [Call.operands]; exact .inr (by simpa using hx))
    unfold sCall
    cases k with
    | value f =>
      have e2 : opd T f = opd T' f := h f (by simp [Call.operands])
      simp only [e2, opds_congr e]
    | invoke r name =>
      have e2 : opd T r = opd T' r := h r (by simp [Call.operands])
      simp only [sInvoke, e2, opds_congr e]
    | builtin bi => exact sBi_congr e
  all_goals rfl
end
end Ev
end Go.Proofs.YtajhndakkaniaaaGreatDoor
/- An evaluator for closed runs: regions that draw their order: what is static. -/
namespace Go.Proofs.YtajhndakkaniaaaGreatDoor
open Go

namespace Ev
/-- what must be behind: as bits -/
noncomputable def edgeBits (acc : List Nat) : List Edge → Nat
  | [] => 0
  | e :: r => match Region.binds .any e with
    | true => 2 ^ e.on ||| (acc.getD e.on 0 ||| edgeBits acc r)
    | false => edgeBits acc r
noncomputable def befL : List Oper → List Nat → List Nat
  | [], acc => acc
  | o :: r, acc => befL r (acc ++ [edgeBits acc o.after.toList])
theorem edgeBits_ok {acc : List Nat} {j : Nat} : ∀ {l : List Edge}, (edgeBits acc l).testBit j = true → ∃ e ∈ l, Region.binds .any e = true ∧ (j = e.on ∨ (acc.getD e.on 0).testBit j = true)
  | [], h => by
    simp [edgeBits] at h
  | e :: r, h => by
    simp only [edgeBits] at h
    split at h
    · rename_i hb
      rw [Nat.testBit_or, Nat.testBit_or, Bool.or_eq_true, Bool.or_eq_true] at h
      rcases h with h | h | h
      · rw [Nat.testBit_two_pow] at h
        exact ⟨e, List.mem_cons_self, hb, .inl (of_decide_eq_true h).symm⟩
      · exact ⟨e, List.mem_cons_self, hb, .inr h⟩
      · obtain ⟨e', h1, h2, h3⟩ := edgeBits_ok h
        exact ⟨e', List.mem_cons_of_mem _ h1, h2, h3⟩
    · obtain ⟨e', h1, h2, h3⟩ := edgeBits_ok h
      exact ⟨e', List.mem_cons_of_mem _ h1, h2, h3⟩
theorem befL_get : ∀ (l : List Oper) (acc : List Nat) (i : Nat), (i < acc.length → (befL l acc)[i]? = acc[i]?) ∧ (∀ o, acc.length ≤ i → l[i - acc.length]? = some o → (befL l acc)[i]? = some (edgeBits ((befL l acc).take i) o.after.toList)) ∧ (befL l acc).length = acc.length + l.length
  | [], acc, i => ⟨fun _ => rfl, fun o _ h => by simp at h, rfl⟩
  | p :: r, acc, i => by
    obtain ⟨h1, h2, h3⟩ := befL_get r (acc ++ [edgeBits acc p.after.toList]) i
    rw [List.length_append, List.length_singleton] at h1 h2 h3
    refine ⟨fun h => ?_, fun o hi ho => ?_, by rw [befL, h3, List.length_cons]; omega⟩
    · rw [befL, h1 (by omega), List.getElem?_append_left h]
    · rw [befL]
      by_cases e : i = acc.length
      · subst e
        rw [Nat.sub_self] at ho
        cases ho
        rw [h1 (by omega), List.getElem?_append_right (Nat.le_refl _), Nat.sub_self]
        have ht : (befL r (acc ++ [edgeBits acc p.after.toList])).take acc.length = acc := by
          apply List.ext_getElem?
          intro j
          by_cases hj : j < acc.length
          · rw [List.getElem?_take_of_lt hj]
            have := (befL_get r (acc ++ [edgeBits acc p.after.toList]) j).1 (by rw [List.length_append]; omega)
            rw [this, List.getElem?_append_left hj]
          · rw [List.getElem?_eq_none (by rw [List.length_take]; omega), List.getElem?_eq_none (by omega)]
        rw [ht]
        rfl
      · exact h2 o (by omega) (by rw [← ho, show i - acc.length = (i - (acc.length + 1)) + 1 by omega]; rfl)
/-- slots that an operation looks at -/
noncomputable def tmpsOf : List Operand → List Tmp
  | [] => []
  | .tmp t :: r => t :: tmpsOf r
  | _ :: r => tmpsOf r
noncomputable def guardT (ops : List Oper) (o : Oper) : List Tmp := match o.guard with
  | none => []
  | some (j, _) => match nth ops j with
    | some p => match p.dst with
      | some d => [d]
      | none => []
    | none => []
noncomputable def slotsOf (ops : List Oper) (o : Oper) : List Tmp := tmpsOf o.op.operands.toList ++ guardT ops o
theorem tmpsOf_mem {t : Tmp} : ∀ {l : List Operand}, Operand.tmp t ∈ l → t ∈ tmpsOf l
  | x :: r, h => by
    rcases List.mem_cons.1 h with e | h
    · subst e
      exact List.mem_cons_self
    · have ih := tmpsOf_mem h
      cases x <;> first | exact List.mem_cons_of_mem _ ih | exact ih
/-- who writes the slot must be behind, or ahead -/
noncomputable def writerOk (bs : List Nat) (i t : Nat) : List Oper → Nat → Bool
  | [], _ => true
  | p :: r, j => match p.dst with
    | some d => if Nat.beq d t then ((Nat.testBit (bs.getD i 0) j && Nat.blt j i) || (Nat.testBit (bs.getD j 0) i && Nat.blt i j)) && writerOk bs i t r (j + 1) else writerOk bs i t r (j + 1)
    | none => writerOk bs i t r (j + 1)
theorem writerOk_ok {bs : List Nat} {i t : Nat} : ∀ {l : List Oper} {j : Nat}, writerOk bs i t l j = true → ∀ (k : Nat) (p : Oper), l[k]? = some p → p.dst = some t → ((bs.getD i 0).testBit (j + k) = true ∧ j + k < i) ∨ ((bs.getD (j + k) 0).testBit i = true ∧ i < j + k)
  | [], _, _, k, p, h, _ => by cases k <;> cases h
  | q :: r, j, h, k, p, hk, hd => by
    have tl : writerOk bs i t r (j + 1) = true := by
      simp only [writerOk] at h
      split at h
      · split at h
        · simp only [Bool.and_eq_true] at h; exact h.2
        · exact h
      · exact h
    cases k with
    | zero =>
      cases hk
      simp only [writerOk, hd, Nat.beq_refl, if_true, Bool.and_eq_true, Bool.or_eq_true] at h
      rcases h.1 with h | h
      · exact .inl ⟨h.1, Nat.blt_eq.mp h.2⟩
      · exact .inr ⟨h.1, Nat.blt_eq.mp h.2⟩
    | succ k =>
      have := writerOk_ok tl k p hk hd
      rw [show j + (k + 1) = j + 1 + k by omega]
      exact this
theorem writerOk_of {bs : List Nat} {i t : Nat} : ∀ {l : List Oper} {j : Nat}, (∀ (k : Nat) (p : Oper), l[k]? = some p → p.dst = some t → ((bs.getD i 0).testBit (j + k) = true ∧ j + k < i) ∨ ((bs.getD (j + k) 0).testBit i = true ∧ i < j + k)) → writerOk bs i t l j = true
  | [], _, _ => rfl
  | p :: r, j, h => by
    have tl : writerOk bs i t r (j + 1) = true := writerOk_of fun k q hk hq => by
      have := h (k + 1) q hk hq
      rwa [show j + (k + 1) = j + 1 + k by omega] at this
    simp only [writerOk]
    split
    · rename_i d hd
      split
      · rename_i e
        have e := Nat.eq_of_beq_eq_true e
        subst e
        rw [tl, Bool.and_true, Bool.or_eq_true, Bool.and_eq_true, Bool.and_eq_true]
        rcases h 0 p rfl hd with h | h
        · exact .inl ⟨h.1, Nat.blt_eq.mpr h.2⟩
        · exact .inr ⟨h.1, Nat.blt_eq.mpr h.2⟩
      · exact tl
    · exact tl
/-- no slot has two writers -/
noncomputable def noDst (d : Tmp) : List Oper → Bool
  | [] => true
  | p :: r => match p.dst with
    | some e => if Nat.beq e d then false else noDst d r
    | none => noDst d r
noncomputable def oneW : List Oper → Bool
  | [] => true
  | p :: r => match p.dst with
    | some d => noDst d r && oneW r
    | none => oneW r
theorem noDst_ok {d : Tmp} : ∀ {l : List Oper}, noDst d l = true → ∀ (k : Nat) (p : Oper), l[k]? = some p → p.dst ≠ some d
  | [], _, k, p, h => by cases k <;> cases h
  | q :: r, h, k, p, hk => by
    simp only [noDst] at h
    cases k with
    | zero =>
      cases hk
      intro e
      rw [e] at h
      simp at h
    | succ k =>
      refine noDst_ok ?_ k p hk
      split at h
      · split at h
        · cases h
        · exact h
      · exact h
theorem oneW_ok : ∀ {l : List Oper}, oneW l = true → ∀ (i j : Nat) (p q : Oper) (d : Tmp), l[i]? = some p → l[j]? = some q → p.dst = some d → q.dst = some d → i = j
  | [], _, i, _, _, _, _, h, _, _, _ => by cases i <;> cases h
  | o :: r, h, i, j, p, q, d, hi, hj, hp, hq => by
    simp only [oneW] at h
    have tl : oneW r = true := by
      split at h
      · simp only [Bool.and_eq_true] at h; exact h.2
      · exact h
    cases i with
    | zero =>
      cases j with
      | zero => rfl
      | succ j =>
        cases hi
        rw [hp] at h
        simp only [Bool.and_eq_true] at h
        exact absurd hq (noDst_ok h.1 j q hj)
    | succ i =>
      cases j with
      | zero =>
        cases hj
        rw [hq] at h
        simp only [Bool.and_eq_true] at h
        exact absurd hp (noDst_ok h.1 i p hi)
      | succ j => rw [oneW_ok tl i j p q d hi hj hp hq]
/-- the same by trees: what is ahead, as bits; who writes a slot -/
noncomputable def getN (t : Tr Nat) (i : Nat) : Nat := match t.get (key i) with
  | some n => n
  | none => 0
noncomputable def edgeT (t : Tr Nat) : List Edge → Nat
  | [] => 0
  | e :: r => match Region.binds .any e with
    | true => Nat.lor (Nat.pow 2 e.on) (Nat.lor (getN t e.on) (edgeT t r))
    | false => edgeT t r
noncomputable def befT (l : List Oper) : Nat → Tr Nat → Tr Nat :=
  List.rec (motive := fun _ => Nat → Tr Nat → Tr Nat) (fun _ t => t) (fun o _ ih i t => ih (i + 1) (t.upd (some (edgeT t o.after.toList)) (key i))) l
theorem edgeT_eq {t : Tr Nat} {acc : List Nat} (h : ∀ j, t.get (key j) = acc[j]?) : ∀ (l : List Edge), edgeT t l = edgeBits acc l
  | [] => rfl
  | e :: r => by
    have hg : getN t e.on = acc.getD e.on 0 := by
      unfold getN
      rw [h, List.getD_eq_getElem?_getD]
      cases acc[e.on]? <;> rfl
    simp only [edgeT, edgeBits]
    rw [edgeT_eq h r, hg]
    rfl
theorem befT_get : ∀ (l : List Oper) (acc : List Nat) (t : Tr Nat), (∀ j, t.get (key j) = acc[j]?) → ∀ j, (befT l acc.length t).get (key j) = (befL l acc)[j]?
  | [], acc, t, h, j => h j
  | o :: r, acc, t, h, j => by
    show (befT r (acc.length + 1) (t.upd (some (edgeT t o.after.toList)) (key acc.length))).get (key j) = (befL r (acc ++ [edgeBits acc o.after.toList]))[j]?
    have := befT_get r (acc ++ [edgeBits acc o.after.toList]) (t.upd (some (edgeT t o.after.toList)) (key acc.length)) (fun q => by
      by_cases e : q = acc.length
      · subst e
        rw [Tr.get_upd, edgeT_eq h, List.getElem?_append_right (Nat.le_refl _), Nat.sub_self]
        rfl
      · rw [Tr.get_other _ _ _ _ fun x => e (key_inj x), h]
        rcases Nat.lt_or_ge q acc.length with hq | hq
        · rw [List.getElem?_append_left hq]
        · rw [List.getElem?_eq_none (by omega), List.getElem?_eq_none (by rw [List.length_append, List.length_singleton]; omega)]) j
    rw [List.length_append, List.length_singleton] at this
    exact this
theorem befT_eq (l : List Oper) : getN (befT l 0 .nil) = fun j => (befL l []).getD j 0 := by
  funext j
  have hb : (befT l 0 .nil).get (key j) = (befL l [])[j]? := befT_get l [] .nil (fun q => by rw [Tr.get_nil]; rfl) j
  unfold getN
  rw [hb, List.getD_eq_getElem?_getD]
  cases (befL l [])[j]? <;> rfl
noncomputable def wrT (l : List Oper) : Nat → Tr Nat → Option (Tr Nat) :=
  List.rec (motive := fun _ => Nat → Tr Nat → Option (Tr Nat)) (fun _ t => some t) (fun o _ ih i t => match o.dst with
    | none => ih (i + 1) t
    | some d => match t.get (key d) with
      | some _ => none
      | none => ih (i + 1) (t.upd (some i) (key d))) l
theorem wrT_ok : ∀ {l : List Oper} {i : Nat} {t W : Tr Nat}, wrT l i t = some W → (∀ d v, t.get (key d) = some v → W.get (key d) = some v ∧ noDst d l = true) ∧ oneW l = true ∧ ∀ (j : Nat) (p : Oper) (d : Tmp), l[j]? = some p → p.dst = some d → W.get (key d) = some (i + j)
  | [], i, t, W, h => by
    have : some t = some W := h
    cases this
    exact ⟨fun d v hd => ⟨hd, rfl⟩, rfl, fun j p d hj => by cases j <;> cases hj⟩
  | o :: r, i, t, W, h => by
    have h : (match o.dst with
      | none => wrT r (i + 1) t
      | some d => match t.get (key d) with
        | some _ => none
        | none => wrT r (i + 1) (t.upd (some i) (key d))) = some W := h
    split at h
    · rename_i hd
      obtain ⟨h1, h2, h3⟩ := wrT_ok h
      refine ⟨fun d v hv => ⟨(h1 d v hv).1, by simp only [noDst, hd]; exact (h1 d v hv).2⟩, by simp only [oneW, hd]; exact h2, fun j p d hj hp => ?_⟩
      cases j with
      | zero => cases hj; rw [hd] at hp; cases hp
      | succ j => rw [show i + (j + 1) = i + 1 + j by omega]; exact h3 j p d hj hp
    · rename_i d hd
      split at h
      · cases h
      · rename_i hn
        obtain ⟨h1, h2, h3⟩ := wrT_ok h
        obtain ⟨k1, k2⟩ := h1 d i (Tr.get_upd _ _ _)
        refine ⟨fun d' v hv => ?_, by simp only [oneW, hd, Bool.and_eq_true]; exact ⟨k2, h2⟩, fun j p d' hj hp => ?_⟩
        · have hne : d' ≠ d := fun e => by rw [e, hn] at hv; cases hv
          have := h1 d' v (by rw [Tr.get_other _ _ _ _ fun x => hne (key_inj x)]; exact hv)
          refine ⟨this.1, ?_⟩
          simp only [noDst, hd]
          rw [if_neg]
          · exact this.2
          · intro e
            exact hne (Nat.eq_of_beq_eq_true e).symm
        · cases j with
          | zero => cases hj; rw [hd] at hp; cases hp; exact k1
          | succ j => rw [show i + (j + 1) = i + 1 + j by omega]; exact h3 j p d' hj hp
/-- slots that are kept -/
noncomputable def restT (T : Tm) : List Tmp → Tm
  | [] => .nil
  | t :: r => (restT T r).upd (T.get (key t)) (key t)
theorem restT_get (T : Tm) : ∀ (l : List Tmp) (t : Tmp), (restT T l).get (key t) = if t ∈ l then T.get (key t) else none
  | [], t => by rw [if_neg (by simp)]; exact Tr.get_nil _
  | s :: r, t => by
    rw [restT]
    by_cases e : t = s
    · subst e
      rw [Tr.get_upd, if_pos List.mem_cons_self]
    · rw [Tr.get_other _ _ _ _ fun q => e (key_inj q), restT_get T r t]
      simp [e]
theorem opd_rest {T : Tm} {l : List Tmp} {xs : List Operand} (hl : ∀ t ∈ tmpsOf xs, t ∈ l) {x : Operand} (hx : x ∈ xs) : opd (restT T l) x = opd T x := by
  cases x with
  | tmp t =>
    show (restT T l).get (key t) = T.get (key t)
    rw [restT_get, if_pos (hl t (tmpsOf_mem hx))]
  | _ => rfl
theorem want_rest {T : Tm} {ops : List Oper} {o : Oper} {l : List Tmp} (hl : ∀ t ∈ guardT ops o, t ∈ l) : wantB ops (restT T l) o = wantB ops T o := by
  unfold wantB
  unfold guardT at hl
  split
  · rfl
  · rename_i j want e
    rw [e] at hl
    simp only at hl
    split
    · rename_i p e1
      rw [e1] at hl
      simp only at hl
      split
      · rename_i d e2
        rw [e2] at hl
        rw [restT_get, if_pos (hl d (by simp))]
      · rfl
    · rfl
/-- how many are left -/
noncomputable def cnt (p : Nat → Bool) : Nat → Nat
  | 0 => 0
  | n + 1 => cnt p n + (if p n then 1 else 0)
theorem cnt_zero {p : Nat → Bool} : ∀ {n : Nat}, cnt p n = 0 → ∀ i, i < n → p i = false
  | 0, _, i, h => by omega
  | n + 1, h, i, hi => by
    rw [cnt] at h
    by_cases e : i = n
    · subst e
      cases hp : p i with
      | false => rfl
      | true => rw [hp] at h; simp at h
    · exact cnt_zero (n := n) (by omega) i (by omega)
theorem cnt_set {p p' : Nat → Bool} {i : Nat} (h1 : p i = true) (h2 : p' i = false) (h3 : ∀ j, j ≠ i → p' j = p j) : ∀ {n : Nat}, (i < n → cnt p' n + 1 = cnt p n) ∧ (n ≤ i → cnt p' n = cnt p n)
  | 0 => ⟨fun h => by omega, fun _ => rfl⟩
  | n + 1 => by
    obtain ⟨a, b⟩ := cnt_set h1 h2 h3 (n := n)
    refine ⟨fun h => ?_, fun h => ?_⟩
    · by_cases e : i = n
      · subst e
        rw [cnt, cnt, h1, h2, b (Nat.le_refl _)]
        simp
      · rw [cnt, cnt, h3 n fun q => e q.symm]
        have := a (by omega)
        omega
    · rw [cnt, cnt, h3 n (by omega), b (by omega)]
end Ev
end Go.Proofs.YtajhndakkaniaaaGreatDoor
/- An evaluator for closed runs: regions that draw their order: the run by index, and what is checked. -/
namespace Go.Proofs.YtajhndakkaniaaaGreatDoor
open Go

namespace Ev
noncomputable def valEq : Value → Value → Bool
  | .bool a, .bool b => a == b
  | .int k a, .int k' b => decide (k = k') && (a == b)
  | .string a, .string b => a.data.toList == b.data.toList
  | .pointer none, .pointer none => true
  | .slice none n c, .slice none n' c' => Nat.beq n n' && Nat.beq c c'
  | .map none, .map none => true
  | .nilFunc, .nilFunc => true
  | .nilIface, .nilIface => true
  | _, _ => false
noncomputable def ptsEq : List (Bn × Nat) → List (Bn × Nat) → Bool
  | [], [] => true
  | (x, o) :: l, (y, q) :: m => Bn.beq x y && Nat.beq o q && ptsEq l m
  | _, _ => false
noncomputable def cvEq : CV → CV → Bool
  | .k a, .k b => valEq a b
  | .p x o, .p y q => Bn.beq x y && Nat.beq o q
  | .s x o d n e, .s y o' d' n' e' => Bn.beq x y && Nat.beq o o' && Nat.beq d d' && Nat.beq n n' && Nat.beq e e'
  | .m x, .m y => Bn.beq x y
  | .i t x o, .i u y q => Nat.beq t u && Bn.beq x y && Nat.beq o q
  | .f f l, .f g m => Nat.beq f g && ptsEq l m
  | .u k x g n, .u k' y g' n' => decide (k = k') && Bn.beq x y && (g == g') && (n == n')
  | _, _ => false
noncomputable def cvsEq : List CV → List CV → Bool
  | [], [] => true
  | a :: l, b :: m => cvEq a b && cvsEq l m
  | _, _ => false
noncomputable def svsEq : List SV → List SV → Bool
  | [], [] => true
  | .c a :: l, .c b :: m => cvEq a b && svsEq l m
  | .a a :: l, .a b :: m => cvsEq a b && svsEq l m
  | _, _ => false
noncomputable def tvEq : Option TV → Option TV → Bool
  | some (.t l), some (.t m) => svsEq l m
  | some (.s (.c a)), some (.s (.c b)) => cvEq a b
  | some (.s (.a l)), some (.s (.a m)) => cvsEq l m
  | some (.i t l), some (.i u m) => Nat.beq t u && cvsEq l m
  | none, _ => true
  | _, _ => false
theorem nb {a b : Nat} (h : Nat.beq a b = true) : a = b := Nat.eq_of_beq_eq_true h
theorem valEq_ok : ∀ {a b : Value}, valEq a b = true → a = b := by
  intro a b h
  unfold valEq at h
  split at h
  · rw [beq_iff_eq] at h
    rw [h]
  · rw [Bool.and_eq_true, beq_iff_eq, decide_eq_true_iff] at h
    rw [h.1, h.2]
  · rename_i a b
    rw [beq_iff_eq] at h
    have : a.data = b.data := Array.ext' h
    congr 1
    exact ByteArray.ext this
  · rfl
  · rw [Bool.and_eq_true] at h
    rw [nb h.1, nb h.2]
  · rfl
  · rfl
  · rfl
  · cases h
theorem ptsEq_ok : ∀ {a b : List (Bn × Nat)}, ptsEq a b = true → a = b
  | [], [], _ => rfl
  | [], _ :: _, h => by cases h
  | _ :: _, [], h => by cases h
  | (x, o) :: l, (y, q) :: m, h => by
    simp only [ptsEq, Bool.and_eq_true] at h
    rw [Bn.beq_eq h.1.1, nb h.1.2, ptsEq_ok h.2]
theorem cvEq_ok : ∀ {a b : CV}, cvEq a b = true → a = b := by
  intro a b h
  unfold cvEq at h
  split at h
  · rw [valEq_ok h]
  · simp only [Bool.and_eq_true] at h
    rw [Bn.beq_eq h.1, nb h.2]
  · simp only [Bool.and_eq_true] at h
    rw [Bn.beq_eq h.1.1.1.1, nb h.1.1.1.2, nb h.1.1.2, nb h.1.2, nb h.2]
  · rw [Bn.beq_eq h]
  · simp only [Bool.and_eq_true] at h
    rw [nb h.1.1, Bn.beq_eq h.1.2, nb h.2]
  · simp only [Bool.and_eq_true] at h
    rw [nb h.1, ptsEq_ok h.2]
  · simp only [Bool.and_eq_true, decide_eq_true_iff, beq_iff_eq] at h
    rw [h.1.1.1, Bn.beq_eq h.1.1.2, h.1.2, h.2]
  · cases h
theorem cvsEq_ok : ∀ {a b : List CV}, cvsEq a b = true → a = b
  | [], [], _ => rfl
  | [], _ :: _, h => by cases h
  | _ :: _, [], h => by cases h
  | x :: l, y :: m, h => by
    simp only [cvsEq, Bool.and_eq_true] at h
    rw [cvEq_ok h.1, cvsEq_ok h.2]
theorem svsEq_ok : ∀ {a b : List SV}, svsEq a b = true → a = b
  | [], [], _ => rfl
  | [], _ :: _, h => by cases h
  | .c _ :: _, [], h => by cases h
  | .a _ :: _, [], h => by cases h
  | .c _ :: _, .a _ :: _, h => by cases h
  | .a _ :: _, .c _ :: _, h => by cases h
  | .c x :: l, .c y :: m, h => by
    simp only [svsEq, Bool.and_eq_true] at h
    rw [cvEq_ok h.1, svsEq_ok h.2]
  | .a x :: l, .a y :: m, h => by
    simp only [svsEq, Bool.and_eq_true] at h
    rw [cvsEq_ok h.1, svsEq_ok h.2]
theorem tvEq_ok {a b : Option TV} (h : tvEq a b = true) : ∀ tv, a = some tv → b = some tv := by
  intro tv e
  unfold tvEq at h
  split at h
  · rw [← e, svsEq_ok h]
  · rw [← e, cvEq_ok h]
  · rw [← e, cvsEq_ok h]
  · simp only [Bool.and_eq_true] at h
    rw [← e, nb h.1, cvsEq_ok h.2]
  · cases e
  · cases h
/-- of one operation: slots ahead, wanted, quiet, what it yields -/
structure Rc where
  T : Tm
  w : Bool
  q : Bool
  r : Option TV
structure Dn where
  rs : List Rc
  as : List Nat
  gs : List Hp
  T : Tm
noncomputable def resO (P : Program) (call : Cl) (T : Tm) (H : Hp) (o : Oper) : Option (Option TV × Hp) := match sOp P T H o with
  | .y r => some (r, H)
  | .d r H' => some (r, H')
  | .e f l => match call f l H with
    | some (v, H') => some (some v, H')
    | none => none
  | .no => none
noncomputable def isQ (P : Program) (T : Tm) (H : Hp) (o : Oper) : Bool := match sOp P T H o with
  | .y _ => true
  | _ => false
noncomputable def runD (P : Program) (call : Cl) (N : Nat) (ops : List Oper) (r : List Oper) : Nat → Tm → Hp → Option Dn :=
  List.rec (motive := fun _ => Nat → Tm → Hp → Option Dn) (fun _ T _ => some ⟨[], [], [], T⟩) (fun o _ ih i T H => match dOk N o.dst with
    | true => match wantB ops T o with
      | some true => match resO P call T H o with
        | some (v, H') => match isQ P T H o with
          | true => match ih (i + 1) (putT T o.dst v) H with
            | some d => some ⟨⟨T, true, true, v⟩ :: d.rs, d.as, d.gs, d.T⟩
            | none => none
          | false => match ih (i + 1) (putT T o.dst v) H' with
            | some d => some ⟨⟨T, true, false, v⟩ :: d.rs, i :: d.as, H' :: d.gs, d.T⟩
            | none => none
        | none => none
      | some false => match ih (i + 1) (putT T o.dst (some undTV)) H with
        | some d => some ⟨⟨T, false, true, some undTV⟩ :: d.rs, d.as, d.gs, d.T⟩
        | none => none
      | none => none
    | false => none) r
theorem runD_nil {P : Program} {call : Cl} {N : Nat} {ops : List Oper} {i : Nat} {T : Tm} {H : Hp} : runD P call N ops [] i T H = some ⟨[], [], [], T⟩ := rfl
theorem runD_step {P : Program} {call : Cl} {N : Nat} {ops : List Oper} {o : Oper} {r : List Oper} {i : Nat} {T : Tm} {H : Hp} : runD P call N ops (o :: r) i T H = (match dOk N o.dst with
    | true => match wantB ops T o with
      | some true => match resO P call T H o with
        | some (v, H') => match isQ P T H o with
          | true => match runD P call N ops r (i + 1) (putT T o.dst v) H with
            | some d => some ⟨⟨T, true, true, v⟩ :: d.rs, d.as, d.gs, d.T⟩
            | none => none
          | false => match runD P call N ops r (i + 1) (putT T o.dst v) H' with
            | some d => some ⟨⟨T, true, false, v⟩ :: d.rs, i :: d.as, H' :: d.gs, d.T⟩
            | none => none
        | none => none
      | some false => match runD P call N ops r (i + 1) (putT T o.dst (some undTV)) H with
        | some d => some ⟨⟨T, false, true, some undTV⟩ :: d.rs, d.as, d.gs, d.T⟩
        | none => none
      | none => none
    | false => none) := rfl
section
variable {P : Program} {call : Cl} {N : Nat} {ops : List Oper}
theorem runD_cons {o : Oper} {r : List Oper} {i : Nat} {T : Tm} {H : Hp} {d : Dn} (h : runD P call N ops (o :: r) i T H = some d) :
    ∃ rc d' H', dOk N o.dst = true ∧ rc.T = T ∧ d.rs = rc :: d'.rs ∧ d.T = d'.T ∧ runD P call N ops r (i + 1) (putT T o.dst rc.r) H' = some d' ∧ wantB ops T o = some rc.w ∧ (rc.w = false → rc.r = some undTV) ∧
      ((rc.q = true ∧ d.as = d'.as ∧ d.gs = d'.gs ∧ H' = H) ∨ (rc.w = true ∧ rc.q = false ∧ d.as = i :: d'.as ∧ d.gs = H' :: d'.gs ∧ resO P call T H o = some (rc.r, H'))) := by
  rw [runD_step] at h
  split at h
  · rename_i h1
    split at h
    · rename_i h2
      split at h
      · rename_i v H' h3
        split at h
        · split at h
          · rename_i d' h5
            cases h
            exact ⟨⟨T, true, true, v⟩, d', H, h1, rfl, rfl, rfl, h5, h2, fun e => (by cases e), .inl ⟨rfl, rfl, rfl, rfl⟩⟩
          · cases h
        · split at h
          · rename_i d' h5
            cases h
            exact ⟨⟨T, true, false, v⟩, d', H', h1, rfl, rfl, rfl, h5, h2, fun e => (by cases e), .inr ⟨rfl, rfl, rfl, rfl, h3⟩⟩
          · cases h
      · cases h
    · rename_i h2
      split at h
      · rename_i d' h5
        cases h
        exact ⟨⟨T, false, true, some undTV⟩, d', H, h1, rfl, rfl, rfl, h5, h2, fun _ => rfl, .inl ⟨rfl, rfl, rfl, rfl⟩⟩
      · cases h
    · cases h
  · cases h
/-- of each operation -/
theorem runD_at : ∀ {r : List Oper} {i : Nat} {T : Tm} {H : Hp} {d : Dn}, runD P call N ops r i T H = some d → ∀ (a : Nat) (o : Oper), r[a]? = some o → ∃ rc, d.rs[a]? = some rc ∧ dOk N o.dst = true ∧ wantB ops rc.T o = some rc.w ∧ (rc.w = false → rc.r = some undTV) ∧ (rc.q = false → rc.w = true ∧ ∃ q : Nat, d.as[q]? = some (i + a))
  | [], _, _, _, _, _, a, o, ha => by cases a <;> cases ha
  | p :: r, i, T, H, d, h, a, o, ha => by
    obtain ⟨rc, d', H', h1, h2, h3, h4, h5, h6, h7, h8⟩ := runD_cons h
    cases a with
    | zero =>
      cases ha
      refine ⟨rc, by rw [h3]; rfl, h1, by rw [h2]; exact h6, h7, fun hq => ?_⟩
      rcases h8 with ⟨k1, _⟩ | ⟨k1, k2, k3, _⟩
      · rw [k1] at hq; cases hq
      · exact ⟨k1, 0, by rw [k3]; rfl⟩
    | succ a =>
      obtain ⟨rc', m1, m2, m3, m4, m5⟩ := runD_at h5 a o ha
      refine ⟨rc', by rw [h3]; exact m1, m2, m3, m4, fun hq => ?_⟩
      obtain ⟨n1, q, n2⟩ := m5 hq
      rcases h8 with ⟨_, k2, _⟩ | ⟨_, _, k3, _⟩
      · exact ⟨n1, q, by rw [k2, n2]; congr 1; omega⟩
      · exact ⟨n1, q + 1, by rw [k3]; show d'.as[q]? = _; rw [n2]; congr 1; omega⟩
/-- of each act -/
theorem runD_act : ∀ {r : List Oper} {i : Nat} {T : Tm} {H : Hp} {d : Dn}, runD P call N ops r i T H = some d → d.gs.length = d.as.length ∧ ∀ (q j : Nat), d.as[q]? = some j → i ≤ j ∧ ∃ o rc H1 H2, r[j - i]? = some o ∧ d.rs[j - i]? = some rc ∧ rc.w = true ∧ rc.q = false ∧ (H :: d.gs)[q]? = some H1 ∧ (H :: d.gs)[q + 1]? = some H2 ∧ resO P call rc.T H1 o = some (rc.r, H2)
  | [], i, T, H, d, h => by
    rw [runD_nil] at h
    cases h
    exact ⟨rfl, fun q j hq => by cases q <;> cases hq⟩
  | p :: r, i, T, H, d, h => by
    obtain ⟨rc, d', H', h1, h2, h3, h4, h5, h6, h7, h8⟩ := runD_cons h
    obtain ⟨g1, g2⟩ := runD_act h5
    rcases h8 with ⟨k1, k2, k3, rfl⟩ | ⟨k1, k2, k3, k4, k5⟩
    · refine ⟨by rw [k2, k3]; exact g1, fun q j hq => ?_⟩
      rw [k2] at hq
      obtain ⟨m1, o, rc', H1, H2, m2, m3, m4⟩ := g2 q j hq
      refine ⟨by omega, o, rc', H1, H2, ?_, ?_, ?_⟩
      · rw [show j - i = (j - (i + 1)) + 1 by omega]; exact m2
      · rw [h3, show j - i = (j - (i + 1)) + 1 by omega]; exact m3
      · rw [k3]; exact m4
    · refine ⟨by rw [k3, k4, List.length_cons, List.length_cons, g1], fun q j hq => ?_⟩
      rw [k3] at hq
      cases q with
      | zero =>
        cases hq
        refine ⟨Nat.le_refl _, p, rc, H, H', ?_, ?_, k1, k2, rfl, by rw [k4]; rfl, by rw [h2]; exact k5⟩
        · rw [Nat.sub_self]; rfl
        · rw [Nat.sub_self, h3]; rfl
      | succ q =>
        obtain ⟨m1, o, rc', H1, H2, m2, m3, m4⟩ := g2 q j hq
        refine ⟨by omega, o, rc', H1, H2, ?_, ?_, ?_⟩
        · rw [show j - i = (j - (i + 1)) + 1 by omega]; exact m2
        · rw [h3, show j - i = (j - (i + 1)) + 1 by omega]; exact m3
        · rw [k4]; exact m4
theorem runD_once : ∀ {r : List Oper} {i : Nat} {T : Tm} {H : Hp} {d : Dn}, runD P call N ops r i T H = some d → ∀ (q q' j : Nat), d.as[q]? = some j → d.as[q']? = some j → q = q'
  | [], i, T, H, d, h, q, q', j, hq, _ => by
    rw [runD_nil] at h
    cases h
    cases q <;> cases hq
  | p :: r, i, T, H, d, h, q, q', j, hq, hq' => by
    obtain ⟨rc, d', H', h1, h2, h3, h4, h5, h6, h7, h8⟩ := runD_cons h
    have g := (runD_act h5).2
    rcases h8 with ⟨_, k2, _⟩ | ⟨_, _, k3, _⟩
    · rw [k2] at hq hq'
      exact runD_once h5 q q' j hq hq'
    · rw [k3] at hq hq'
      cases q with
      | zero =>
        cases q' with
        | zero => rfl
        | succ q' =>
          cases hq
          have := (g q' _ hq').1
          omega
      | succ q =>
        cases q' with
        | zero =>
          cases hq'
          have := (g q _ hq).1
          omega
        | succ q' => rw [runD_once h5 q q' j hq hq']
/-- how many of the first operations act -/
noncomputable def cntA : List Rc → Nat → Nat
  | [], _ => 0
  | _ :: _, 0 => 0
  | rc :: r, n + 1 => (match rc.w && !rc.q with
    | true => 1
    | false => 0) + cntA r n
theorem runD_q : ∀ {r : List Oper} {i : Nat} {T : Tm} {H : Hp} {d : Dn}, runD P call N ops r i T H = some d → ∀ (a : Nat) (o : Oper) (rc : Rc), r[a]? = some o → d.rs[a]? = some rc → rc.w = true → rc.q = true → ∃ H1, (H :: d.gs)[cntA d.rs a]? = some H1 ∧ sOp P rc.T H1 o = .y rc.r
  | [], _, _, _, _, _, a, _, _, ha, _, _, _ => by cases a <;> cases ha
  | p :: r, i, T, H, d, h, a, o, rc, ha, hrc, hw, hq => by
    rw [runD_step] at h
    split at h
    · split at h
      · rename_i h2
        split at h
        · rename_i v H' h3
          split at h
          · rename_i h4
            split at h
            · rename_i d' h5
              cases h
              cases a with
              | zero =>
                cases ha
                cases hrc
                refine ⟨H, rfl, ?_⟩
                unfold isQ at h4
                unfold resO at h3
                split at h4
                · rename_i r' e
                  rw [e] at h3 ⊢
                  cases h3
                  rfl
                · cases h4
              | succ a =>
                obtain ⟨H1, k1, k2⟩ := runD_q h5 a o rc ha hrc hw hq
                refine ⟨H1, ?_, k2⟩
                show (H :: d'.gs)[0 + cntA d'.rs a]? = some H1
                rw [Nat.zero_add]
                exact k1
            · cases h
          · split at h
            · rename_i d' h5
              cases h
              cases a with
              | zero =>
                cases hrc
                cases hq
              | succ a =>
                obtain ⟨H1, k1, k2⟩ := runD_q h5 a o rc ha hrc hw hq
                refine ⟨H1, ?_, k2⟩
                show (H :: H' :: d'.gs)[1 + cntA d'.rs a]? = some H1
                rw [Nat.add_comm]
                exact k1
            · cases h
        · cases h
      · split at h
        · rename_i d' h5
          cases h
          cases a with
          | zero =>
            cases hrc
            cases hw
          | succ a =>
            obtain ⟨H1, k1, k2⟩ := runD_q h5 a o rc ha hrc hw hq
            refine ⟨H1, ?_, k2⟩
            show (H :: d'.gs)[0 + cntA d'.rs a]? = some H1
            rw [Nat.zero_add]
            exact k1
        · cases h
      · cases h
    · cases h
/-- slots ahead of the a-th operation (or behind all) -/
noncomputable def Dn.at (d : Dn) (a : Nat) : Tm := match d.rs[a]? with
  | some rc => rc.T
  | none => d.T
theorem putT_other {T : Tm} {d : Option Tmp} {v : Option TV} {t : Tmp} (h : d ≠ some t) : (putT T d v).get (key t) = T.get (key t) := by
  cases d with
  | none => rfl
  | some e => exact Tr.get_other _ _ _ _ fun q => h (by rw [key_inj q])
theorem putT_same {T : Tm} {v : Option TV} {t : Tmp} : (putT T (some t) v).get (key t) = v := Tr.get_upd _ _ _
theorem runD_len : ∀ {r : List Oper} {i : Nat} {T : Tm} {H : Hp} {d : Dn}, runD P call N ops r i T H = some d → d.rs.length = r.length
  | [], i, T, H, d, h => by
    rw [runD_nil] at h
    cases h
    rfl
  | p :: r, i, T, H, d, h => by
    obtain ⟨rc, d', H', h1, h2, h3, h4, h5, h6, h7, h8⟩ := runD_cons h
    rw [h3, List.length_cons, List.length_cons, runD_len h5]
theorem runD_old : ∀ {r : List Oper} {i : Nat} {T : Tm} {H : Hp} {d : Dn}, runD P call N ops r i T H = some d → ∀ (a : Nat) (t : Tmp), a ≤ r.length → (∀ b p, b < a → r[b]? = some p → p.dst ≠ some t) → (d.at a).get (key t) = T.get (key t)
  | [], i, T, H, d, h, a, t, _, _ => by
    rw [runD_nil] at h
    cases h
    rfl
  | p :: r, i, T, H, d, h, a, t, ha, hn => by
    obtain ⟨rc, d', H', h1, h2, h3, h4, h5, h6, h7, h8⟩ := runD_cons h
    cases a with
    | zero =>
      unfold Dn.at
      rw [h3]
      show rc.T.get _ = _
      rw [h2]
    | succ a =>
      have e : d.at (a + 1) = d'.at a := by
        unfold Dn.at
        rw [h3, h4]
        rfl
      rw [e, runD_old h5 a t (by simpa using ha) fun b p' hb hp => hn (b + 1) p' (by omega) hp, putT_other (hn 0 p (by omega) rfl)]
theorem runD_new : ∀ {r : List Oper} {i : Nat} {T : Tm} {H : Hp} {d : Dn}, runD P call N ops r i T H = some d → ∀ (a b : Nat) (t : Tmp) (p : Oper) (rb : Rc), b < a → a ≤ r.length → r[b]? = some p → d.rs[b]? = some rb → p.dst = some t → (∀ c q, b < c → c < a → r[c]? = some q → q.dst ≠ some t) → (d.at a).get (key t) = rb.r
  | [], i, T, H, d, h, a, b, t, p, rb, _, _, hb, _, _, _ => by cases b <;> cases hb
  | o :: r, i, T, H, d, h, a, b, t, p, rb, hba, ha, hb, hrb, hd, hn => by
    obtain ⟨rc, d', H', h1, h2, h3, h4, h5, h6, h7, h8⟩ := runD_cons h
    cases a with
    | zero => omega
    | succ a =>
      have e : d.at (a + 1) = d'.at a := by
        unfold Dn.at
        rw [h3, h4]
        rfl
      rw [h3] at hrb
      cases b with
      | zero =>
        cases hb
        cases hrb
        rw [e, runD_old h5 a t (by simpa using ha) fun c q hc hq => hn (c + 1) q (by omega) (by omega) hq, hd, putT_same]
      | succ b =>
        rw [e]
        exact runD_new h5 a b t p rb (by omega) (by simpa using ha) hb hrb hd fun c q h1 h2 hq => hn (c + 1) q (by omega) (by omega) hq
end
end Ev
end Go.Proofs.YtajhndakkaniaaaGreatDoor
/- An evaluator for closed runs: regions that draw their order. -/
namespace Go.Proofs.YtajhndakkaniaaaGreatDoor
open Go

namespace Ev
noncomputable def tb (m n : Nat) : Bool := Nat.beq (Nat.land 1 (Nat.shiftRight m n)) 1
theorem tb_eq (m n : Nat) : tb m n = Nat.testBit m n := by
  unfold tb Nat.testBit
  show Nat.beq (1 &&& (m >>> n)) 1 = (1 &&& (m >>> n) != 0)
  rw [Nat.one_and_eq_mod_two]
  rcases Nat.mod_two_eq_zero_or_one (m >>> n) with h | h <;> rw [h] <;> rfl
/-- behind how many acts an operation may come: from, to -/
noncomputable def loA (b : Nat) : List Nat → Nat → Nat → Nat
  | [], _, acc => acc
  | j :: r, q, acc => match tb b j with
    | true => loA b r (q + 1) (q + 1)
    | false => loA b r (q + 1) acc
noncomputable def hiA (bs : Nat → Nat) (i : Nat) : List Nat → Nat → Nat
  | [], q => q
  | j :: r, q => match tb (bs j) i with
    | true => q
    | false => hiA bs i r (q + 1)
theorem loA_le {b : Nat} : ∀ {as : List Nat} {q acc k : Nat}, acc ≤ k → (∀ n j : Nat, as[n]? = some j → k ≤ q + n → Nat.testBit b j = false) → loA b as q acc ≤ k
  | [], _, _, _, h, _ => h
  | j :: r, q, acc, k, h, hn => by
    unfold loA
    split
    · rename_i e
      rw [tb_eq] at e
      have hq : q + 1 ≤ k := by
        rcases Nat.lt_or_ge q k with h | h
        · omega
        · have := hn 0 j rfl (by omega)
          rw [e] at this
          cases this
      exact loA_le hq fun n j hj hk => hn (n + 1) j hj (by omega)
    · exact loA_le h fun n j hj hk => hn (n + 1) j hj (by omega)
theorem le_hiA {bs : Nat → Nat} {i : Nat} : ∀ {as : List Nat} {q k : Nat}, k ≤ q + as.length → (∀ n j : Nat, as[n]? = some j → q + n < k → Nat.testBit (bs j) i = false) → k ≤ hiA bs i as q
  | [], _, _, h, _ => h
  | j :: r, q, k, h, hn => by
    unfold hiA
    split
    · rename_i e
      rw [tb_eq] at e
      rcases Nat.lt_or_ge q k with h | h
      · have := hn 0 j rfl (by omega)
        rw [e] at this
        cases this
      · exact h
    · exact le_hiA (by rw [List.length_cons] at h; omega) fun n j hj hk => hn (n + 1) j hj (by omega)
noncomputable def qAt (P : Program) (o : Oper) (rc : Rc) (lo hi c : Nat) : List Hp → Nat → Bool
  | [], _ => true
  | H :: r, k => (match Nat.ble lo k && (Nat.ble k hi && !(Nat.beq k c)) with
    | true => (match sOp P rc.T H o with
      | .y v => tvEq rc.r v
      | _ => false)
    | false => true) && qAt P o rc lo hi c r (k + 1)
noncomputable def qAll (P : Program) (bs : Nat → Nat) (as : List Nat) (hs : List Hp) : List Oper → List Rc → Nat → Nat → Bool
  | o :: r, rc :: l, i, c => match rc.w && !rc.q with
    | true => qAll P bs as hs r l (i + 1) (1 + c)
    | false => (match rc.w with
      | true => qAt P o rc (loA (bs i) as 0 0) (hiA bs i as 0) c hs 0
      | false => true) && qAll P bs as hs r l (i + 1) c
  | [], _, _, _ => true
  | _ :: _, [], _, _ => false
noncomputable def qAny (P : Program) (bs : Nat → Nat) (as : List Nat) (hs : List Hp) (ops : List Oper) (rs : List Rc) : Bool := match as with
  | [] => true
  | _ => qAll P bs as hs ops rs 0 0
noncomputable def slAll (ops : List Oper) (bs : List Nat) : List Oper → Nat → Bool
  | [], _ => true
  | o :: r, i => (slotsOf ops o).all (fun t => writerOk bs i t ops 0) && (o.after.toList.all (fun e => !(Region.binds .any e) || Nat.blt e.on i) && slAll ops bs r (i + 1))
noncomputable def slOk (bt W : Tr Nat) (i : Nat) (l : List Tmp) : Bool :=
  List.rec (motive := fun _ => Bool) true (fun t _ ih => match W.get (key t) with
    | none => ih
    | some j => match Nat.blt j i with
      | true => match tb (getN bt i) j with
        | true => ih
        | false => false
      | false => match Nat.blt i j && tb (getN bt j) i with
        | true => ih
        | false => false) l
noncomputable def edOk (i : Nat) (l : List Edge) : Bool :=
  List.rec (motive := fun _ => Bool) true (fun e _ ih => match Region.binds .any e with
    | true => match Nat.blt e.on i with
      | true => ih
      | false => false
    | false => ih) l
noncomputable def slAllT (ops : List Oper) (bt W : Tr Nat) (l : List Oper) : Nat → Bool :=
  List.rec (motive := fun _ => Nat → Bool) (fun _ => true) (fun o _ ih i => match slOk bt W i (slotsOf ops o) with
    | true => match edOk i o.after.toList with
      | true => ih (i + 1)
      | false => false
    | false => false) l
theorem slOk_ok {bt W : Tr Nat} {i : Nat} : ∀ {l : List Tmp}, slOk bt W i l = true → ∀ t ∈ l, ∀ j, W.get (key t) = some j → (tb (getN bt i) j = true ∧ j < i) ∨ (tb (getN bt j) i = true ∧ i < j)
  | [], _, t, ht, _, _ => by cases ht
  | t :: r, h, t', ht, j, hj => by
    have h : (match W.get (key t) with
      | none => slOk bt W i r
      | some j => match Nat.blt j i with
        | true => match tb (getN bt i) j with
          | true => slOk bt W i r
          | false => false
        | false => match Nat.blt i j && tb (getN bt j) i with
          | true => slOk bt W i r
          | false => false) = true := h
    have tl : slOk bt W i r = true := by
      split at h
      · exact h
      · split at h
        · split at h
          · exact h
          · cases h
        · split at h
          · exact h
          · cases h
    rcases List.mem_cons.1 ht with e | ht
    · subst e
      rw [hj] at h
      simp only at h
      split at h
      · rename_i hb
        split at h
        · rename_i hc
          exact .inl ⟨hc, Nat.blt_eq.mp hb⟩
        · cases h
      · split at h
        · rename_i hc
          rw [Bool.and_eq_true] at hc
          exact .inr ⟨hc.2, Nat.blt_eq.mp hc.1⟩
        · cases h
    · exact slOk_ok tl t' ht j hj
theorem edOk_ok {i : Nat} : ∀ {l : List Edge}, edOk i l = true → (l.all fun e => !(Region.binds .any e) || Nat.blt e.on i) = true
  | [], _ => rfl
  | e :: r, h => by
    have h : (match Region.binds .any e with
      | true => match Nat.blt e.on i with
        | true => edOk i r
        | false => false
      | false => edOk i r) = true := h
    rw [List.all_cons]
    split at h
    · rename_i hb
      split at h
      · rename_i hc
        rw [hb, hc, edOk_ok h]
        rfl
      · cases h
    · rename_i hb
      rw [hb, edOk_ok h]
      rfl
theorem slAllT_ok {ops : List Oper} {W : Tr Nat} (hW : ∀ (j : Nat) (p : Oper) (d : Tmp), ops[j]? = some p → p.dst = some d → W.get (key d) = some j) : ∀ {l : List Oper} {i : Nat}, slAllT ops (befT ops 0 .nil) W l i = true → slAll ops (befL ops []) l i = true
  | [], _, _ => rfl
  | o :: r, i, h => by
    have h : (match slOk (befT ops 0 .nil) W i (slotsOf ops o) with
      | true => match edOk i o.after.toList with
        | true => slAllT ops (befT ops 0 .nil) W r (i + 1)
        | false => false
      | false => false) = true := h
    split at h
    · rename_i h1
      split at h
      · rename_i h2
        simp only [slAll, Bool.and_eq_true]
        refine ⟨List.all_eq_true.2 fun t ht => writerOk_of fun k p hk hp => ?_, edOk_ok h2, slAllT_ok hW h⟩
        have := slOk_ok h1 t ht k (hW k p t hk hp)
        rw [tb_eq, tb_eq, befT_eq] at this
        rw [Nat.zero_add]
        exact this
      · cases h
    · cases h
/-- one act may float: a new variable, that does not wait for what is ahead of it -/
noncomputable def flPos (bs : Nat → Nat) : List Nat → Nat → Nat
  | [], q => q
  | [_], q => q + 1
  | a :: b :: r, q => match tb (bs b) a with
    | true => flPos bs (b :: r) (q + 1)
    | false => q + 1
noncomputable def chainF (bs : Nat → Nat) (p : Nat) : List Nat → Nat → Bool
  | a :: b :: r, q => (Nat.beq (q + 1) p || tb (bs b) a) && chainF bs p (b :: r) (q + 1)
  | _, _ => true
noncomputable def floOk (bs as : List Nat) (ops : List Oper) (T0 : Tm) (p : Nat) : Bool := match as[p]? with
  | none => true
  | some f => (match ops[f]? with
    | some o => (match o.op, o.dst with
      | .alloc _, some t => (match T0.get (key t) with
        | none => true
        | some _ => false)
      | _, _ => false)
    | none => false) && bs.all fun x => !(Nat.testBit x f) || (as.take p).all fun j => Nat.testBit x j
noncomputable def lastH : Hp → List Hp → Hp
  | H, [] => H
  | _, H :: r => lastH H r
noncomputable def drawD (P : Program) (call : Cl) : Dr := fun N ops s => match runD P call N ops.toList ops.toList 0 s.1 s.2 with
  | some d => match wrT ops.toList 0 .nil with
    | some W => match slAllT ops.toList (befT ops.toList 0 .nil) W ops.toList 0 with
      | true => match (chainF (getN (befT ops.toList 0 .nil)) (flPos (getN (befT ops.toList 0 .nil)) d.as 0) d.as 0 && floOk (befL ops.toList []) d.as ops.toList s.1 (flPos (getN (befT ops.toList 0 .nil)) d.as 0)) && qAny P (getN (befT ops.toList 0 .nil)) d.as (s.2 :: d.gs) ops.toList d.rs with
        | true => some (d.T, lastH s.2 d.gs)
        | false => none
      | false => none
    | none => none
  | none => none
theorem qAt_ok {P : Program} {o : Oper} {rc : Rc} {lo hi c : Nat} : ∀ {hs : List Hp} {k0 : Nat}, qAt P o rc lo hi c hs k0 = true → ∀ (k : Nat) (H : Hp), hs[k]? = some H → lo ≤ k0 + k → k0 + k ≤ hi → k0 + k ≠ c → ∃ v, sOp P rc.T H o = .y v ∧ tvEq rc.r v = true
  | [], _, _, k, H, h, _, _, _ => by cases k <;> cases h
  | H0 :: r, k0, h, k, H, hk, h1, h2, h3 => by
    simp only [qAt, Bool.and_eq_true] at h
    cases k with
    | zero =>
      cases hk
      rw [Nat.add_zero] at h1 h2 h3
      have e : (Nat.ble lo k0 && (Nat.ble k0 hi && !(Nat.beq k0 c))) = true := by
        rw [Bool.and_eq_true, Bool.and_eq_true, Nat.ble_eq, Nat.ble_eq]
        refine ⟨h1, h2, ?_⟩
        cases hb : Nat.beq k0 c with
        | false => rfl
        | true => exact absurd (nb hb) h3
      rw [e] at h
      have h1 := h.1
      simp only at h1
      split at h1
      · rename_i v e
        exact ⟨v, e, h1⟩
      · cases h1
    | succ k => exact qAt_ok h.2 k H hk (by omega) (by omega) (by omega)
theorem qAll_ok {P : Program} {bs : Nat → Nat} {as : List Nat} {hs : List Hp} : ∀ {r : List Oper} {l : List Rc} {i c : Nat}, qAll P bs as hs r l i c = true → ∀ (a : Nat) (o : Oper) (rc : Rc), r[a]? = some o → l[a]? = some rc → rc.w = true → rc.q = true → qAt P o rc (loA (bs (i + a)) as 0 0) (hiA bs (i + a) as 0) (c + cntA l a) hs 0 = true
  | [], _, _, _, _, a, _, _, h, _, _, _ => by cases a <;> cases h
  | _ :: _, [], _, _, _, a, _, _, _, h, _, _ => by cases a <;> cases h
  | o :: r, rc :: l, i, c, h, a, o', rc', h1, h2, h3, h4 => by
    simp only [qAll] at h
    cases a with
    | zero =>
      cases h1
      cases h2
      rw [h3, h4] at h
      simp only [Bool.not_true, Bool.and_false, Bool.and_eq_true] at h
      exact h.1
    | succ a =>
      rw [show i + (a + 1) = i + 1 + a by omega, cntA]
      split at h
      · rename_i e
        try rw [e]
        try simp only
        rw [show c + (1 + cntA l a) = 1 + c + cntA l a by omega]
        exact qAll_ok h a o' rc' h1 h2 h3 h4
      · rename_i e
        try rw [e]
        simp only [Nat.zero_add]
        rw [Bool.and_eq_true] at h
        exact qAll_ok h.2 a o' rc' h1 h2 h3 h4
theorem slAll_ok {ops : List Oper} {bs : List Nat} : ∀ {r : List Oper} {i : Nat}, slAll ops bs r i = true → ∀ (a : Nat) (o : Oper), r[a]? = some o → (∀ t ∈ slotsOf ops o, writerOk bs (i + a) t ops 0 = true) ∧ ∀ e ∈ o.after.toList, Region.binds .any e = true → e.on < i + a
  | [], _, _, a, _, h => by cases a <;> cases h
  | o :: r, i, h, a, o', h1 => by
    simp only [slAll, Bool.and_eq_true] at h
    cases a with
    | zero =>
      cases h1
      refine ⟨fun t ht => List.all_eq_true.1 h.1 t ht, fun e he hb => ?_⟩
      have := List.all_eq_true.1 h.2.1 e he
      rw [hb] at this
      exact Nat.blt_eq.mp (by simpa using this)
    | succ a =>
      rw [show i + (a + 1) = i + 1 + a by omega]
      exact slAll_ok h.2.2 a o' h1
theorem chainF_ok {bs : Nat → Nat} {p : Nat} : ∀ {as : List Nat} {n : Nat}, chainF bs p as n = true → ∀ (q a b : Nat), n + q + 1 ≠ p → as[q]? = some a → as[q + 1]? = some b → Nat.testBit (bs b) a = true
  | [], _, _, q, _, _, _, h, _ => by cases q <;> cases h
  | [_], _, _, q, _, _, _, _, h => by cases q <;> cases h
  | x :: y :: r, n, h, q, a, b, hn, h1, h2 => by
    simp only [chainF, Bool.and_eq_true, Bool.or_eq_true] at h
    cases q with
    | zero =>
      cases h1
      cases h2
      rw [tb_eq] at h
      rcases h.1 with h | h
      · exact absurd (nb h) hn
      · exact h
    | succ q => exact chainF_ok h.2 q a b (by omega) h1 h2
theorem floOk_ok {bs as : List Nat} {ops : List Oper} {T0 : Tm} {p f : Nat} (h : floOk bs as ops T0 p = true) (hp : as[p]? = some f) :
    (∃ o e t, ops[f]? = some o ∧ o.op = .alloc e ∧ o.dst = some t ∧ T0.get (key t) = none) ∧ ∀ i q j : Nat, Nat.testBit (bs.getD i 0) f = true → q < p → as[q]? = some j → Nat.testBit (bs.getD i 0) j = true := by
  unfold floOk at h
  rw [hp] at h
  simp only [Bool.and_eq_true] at h
  refine ⟨?_, fun i q j hi hq hj => ?_⟩
  · have h1 := h.1
    split at h1
    · rename_i o ho
      split at h1
      · rename_i e t he ht
        split at h1
        · rename_i hT
          exact ⟨o, e, t, ho, he, ht, hT⟩
        · cases h1
      · cases h1
    · cases h1
  · have h2 := List.all_eq_true.1 h.2
    cases hb : bs[i]? with
    | none =>
      rw [List.getD_eq_getElem?_getD, hb] at hi
      simp at hi
    | some x =>
      rw [List.getD_eq_getElem?_getD, hb] at hi ⊢
      have hx := h2 x (List.mem_of_getElem? hb)
      rw [Bool.or_eq_true] at hx
      rcases hx with hx | hx
      · rw [show Nat.testBit x f = true from hi] at hx
        cases hx
      · refine List.all_eq_true.1 hx j ?_
        refine List.mem_of_getElem? (i := q) ?_
        rw [List.getElem?_take_of_lt hq]
        exact hj
theorem lastH_ok : ∀ (gs : List Hp) (H : Hp), (H :: gs)[gs.length]? = some (lastH H gs)
  | [], _ => rfl
  | G :: r, _ => lastH_ok r G
section
variable {P : Program} {B N : Nat} {call : Cl} {ops : Array Oper}
/-- what is behind is listed -/
theorem clo {ls : Nat → Bool} (hcl : ∀ (i : Nat) (o : Oper), ls i = true → ops.toList[i]? = some o → ∀ e ∈ o.after.toList, Region.binds .any e = true → ls e.on = true) : ∀ (i : Nat) (o : Oper), ops.toList[i]? = some o → (∀ e ∈ o.after.toList, Region.binds .any e = true → ls e.on = true) → ∀ j, ((befL ops.toList []).getD i 0).testBit j = true → ls j = true := by
  intro i
  induction i using Nat.strongRecOn with
  | _ i ih =>
    intro o ho he j hj
    obtain ⟨_, h2, h3⟩ := befL_get ops.toList [] i
    have hb := h2 o (Nat.zero_le _) (by simpa using ho)
    rw [List.getD_eq_getElem?_getD, hb] at hj
    obtain ⟨e, m1, m2, m3⟩ := edgeBits_ok (by simpa using hj)
    rcases m3 with rfl | m3
    · exact he e m1 m2
    · by_cases hlt : e.on < i
      · rw [List.getD_eq_getElem?_getD, List.getElem?_take_of_lt hlt] at m3
        have hi : i < ops.toList.length := (List.getElem?_eq_some_iff.1 ho).1
        have hl := he e m1 m2
        have ho' : ops.toList[e.on]? = some (ops.toList[e.on]'(by omega)) := List.getElem?_eq_getElem (by omega)
        exact ih e.on hlt _ ho' (hcl e.on _ hl ho') j (by rw [List.getD_eq_getElem?_getD]; exact m3)
      · rw [List.getD_eq_getElem?_getD, List.getElem?_eq_none (by rw [List.length_take]; omega)] at m3
        simp at m3
theorem resO_congr {T T' : Tm} {H : Hp} {o : Oper} (h : sOp P T H o = sOp P T' H o) : resO P call T H o = resO P call T' H o := by
  unfold resO
  rw [h]
theorem op_run (hc : CallOk P B call) {o : Oper} {T : Tm} {H H' : Hp} {φ : Ren} {a : Act} {w : World} {r : Option TV} {Q : Exit → Act → World → Prop} {K : Act → World → Prop} (hev : EvR φ T a.eval) (sr : SR P B φ H w) (hB : B ≤ w.heap.size)
    (hr : resO P call T H o = some (r, H'))
    (hK : ∀ φ' v w', (∀ tv, r = some tv → tvV φ' tv = some v) → Ext P B φ H w φ' H' w' → K (a.put o.dst v) w') : o.wp P a w K Q := by
  have ho := sOp_ok (P := P) (B := B) (T := T) (H := H) (o := o)
  unfold resO at hr
  split at hr
  · rename_i r' e
    rw [e] at ho
    obtain ⟨v, h1, h2⟩ := ho φ a.eval w hev sr
    cases hr
    unfold Oper.wp
    rw [h2]
    exact hK φ v w h1 (Ext.refl sr)
  · rename_i r' H2 e
    rw [e] at ho
    obtain ⟨n, φ', w', h1, h2, h3⟩ := ho φ a.eval w hev sr hB
    cases hr
    unfold Oper.wp
    rw [h2]
    rcases h1 with ⟨v, rfl, h1⟩ | ⟨rfl, rfl⟩
    · exact hK φ' v w' h1 h3
    · exact hK φ' undef w' (fun tv q => by cases q) h3
  · rename_i f l e
    rw [e] at ho
    split at hr
    · rename_i v H2 e2
      cases hr
      obtain ⟨hg, hcall⟩ := hc f l H v H' e2
      obtain ⟨args, h1, h2⟩ := ho hg φ a.eval w hev sr
      unfold Oper.wp
      rw [h2]
      refine Calls.mono (hcall φ args w h1 sr hB) ?_
      rintro _ w' ⟨u, φ', rfl, h3, h4⟩
      exact hK φ' u w' (fun tv q => by cases q; exact h3) h4
    · cases hr
  · cases hr
/-- the slots in the middle of a region -/
structure Sl (ops : Array Oper) (d : Dn) (N : Nat) (T0 : Tm) (φ : Ren) (ls : Nat → Bool) (a : Act) : Prop where
  size : a.tmps.size = N
  defers : a.defers = []
  old : ∀ t tv, (∀ (i : Nat) (o : Oper), ls i = true → ops.toList[i]? = some o → o.dst ≠ some t) → T0.get (key t) = some tv → ∃ v, a.tmps[t]? = some v ∧ tvV φ tv = some v
  new : ∀ (i : Nat) (o : Oper) (rc : Rc) t tv, ls i = true → ops.toList[i]? = some o → d.rs[i]? = some rc → o.dst = some t → rc.r = some tv → ∃ v, a.tmps[t]? = some v ∧ tvV φ tv = some v
theorem Sl.put {d : Dn} {T0 : Tm} {φ φ' : Ren} {ls ls' : Nat → Bool} {a : Act} (h : Sl ops d N T0 φ ls a) (k : Le φ φ') (h1 : oneW ops.toList = true) {i : Nat} {o : Oper} {rc : Rc} {u : Value} (ho : ops.toList[i]? = some o) (hrc : d.rs[i]? = some rc) (hd : dOk N o.dst = true) (hr : ∀ tv, rc.r = some tv → tvV φ' tv = some u) (hi : ls' i = true) (hj : ∀ j, j ≠ i → ls' j = ls j) : Sl ops d N T0 φ' ls' (a.put o.dst u) := by
  have other : ∀ t, o.dst ≠ some t → (a.put o.dst u).tmps[t]? = a.tmps[t]? := fun t ht => by
    cases e : o.dst with
    | none => rfl
    | some s =>
      show (a.tmps.setIfInBounds s u)[t]? = _
      rw [Array.getElem?_setIfInBounds, if_neg]
      intro q
      exact ht (by rw [e, q])
  have same : ∀ t, o.dst = some t → (a.put o.dst u).tmps[t]? = some u := fun t ht => by
    rw [ht] at hd ⊢
    have hd : t < N := Nat.blt_eq.mp hd
    show (a.tmps.setIfInBounds t u)[t]? = _
    rw [Array.getElem?_setIfInBounds, if_pos rfl, if_pos (by rw [h.size]; exact hd)]
  refine ⟨?_, ?_, fun t tv hn ht => ?_, fun j p rj t tv hl hp hrj hdt hv => ?_⟩
  · cases e : o.dst with
    | none => exact h.size
    | some s =>
      show (a.tmps.setIfInBounds s u).size = N
      rw [Array.size_setIfInBounds]
      exact h.size
  · cases e : o.dst with
    | none => exact h.defers
    | some s => exact h.defers
  · have hne := hn i o hi ho
    obtain ⟨v, m1, m2⟩ := h.old t tv (fun j p hl hp => hn j p (by
      by_cases e : j = i
      · rw [e]; exact hi
      · rw [hj j e]; exact hl) hp) ht
    exact ⟨v, by rw [other t hne]; exact m1, k.tv m2⟩
  · by_cases e : j = i
    · subst e
      rw [ho] at hp
      cases hp
      rw [hrc] at hrj
      cases hrj
      exact ⟨u, same t hdt, hr tv hv⟩
    · obtain ⟨v, m1, m2⟩ := h.new j p rj t tv (by rw [← hj j e]; exact hl) hp hrj hdt hv
      exact ⟨v, by rw [other t fun q => e (oneW_ok h1 j i p o t hp ho hdt q)]; exact m1, k.tv m2⟩
/-- what an operation that is ready sees -/
theorem Sl.sees {d : Dn} {T0 : Tm} {H0 : Hp} {φ : Ren} {ls : Nat → Bool} {a : Act} (h : Sl ops d N T0 φ ls a) (hrun : runD P call N ops.toList ops.toList 0 T0 H0 = some d) (h1 : oneW ops.toList = true) {n : Nat} (hn : n ≤ ops.toList.length) {S : List Tmp} (hS : ∀ t ∈ S, ∀ (j : Nat) (p : Oper), ops.toList[j]? = some p → p.dst = some t → (ls j = true ∧ j < n) ∨ (ls j = false ∧ n ≤ j)) : FR φ (restT (d.at n) S) a := fun t tv ht => by
  rw [restT_get] at ht
  split at ht
  · rename_i hm
    by_cases hw : ∃ (j : Nat) (p : Oper), ops.toList[j]? = some p ∧ p.dst = some t
    · obtain ⟨j, p, hp, hd⟩ := hw
      rcases hS t hm j p hp hd with ⟨k1, k2⟩ | ⟨k1, k2⟩
      case inr =>
        rw [runD_old hrun n t hn fun b p' hb hp' hd' => by
          have := oneW_ok h1 j b p p' t hp hp' hd hd'
          omega] at ht
        exact h.old t tv (fun b p' hl hp' hd' => by
          have := oneW_ok h1 j b p p' t hp hp' hd hd'
          subst this
          rw [k1] at hl
          cases hl) ht
      have hlen := runD_len hrun
      have hj : j < ops.toList.length := (List.getElem?_eq_some_iff.1 hp).1
      have hrj : d.rs[j]? = some (d.rs[j]'(by omega)) := List.getElem?_eq_getElem (by omega)
      rw [runD_new hrun n j t p _ k2 hn hp hrj hd fun c q hc _ hq hqd => by
        have := oneW_ok h1 j c p q t hp hq hd hqd
        omega] at ht
      exact h.new j p _ t tv k1 hp hrj hd ht
    · rw [runD_old hrun n t hn fun b p _ hp hd => hw ⟨b, p, hp, hd⟩] at ht
      exact h.old t tv (fun j p _ hp hd => hw ⟨j, p, hp, hd⟩) ht
  · cases ht
end
end Ev
end Go.Proofs.YtajhndakkaniaaaGreatDoor
