/- What is given to the evaluator: shell.Play, slices.Collect; what the document fixes comes true. -/
import Derived.Test.YtajhndakkaniaaaGreatDoorEvZ
import Derived.Test.YtajhndakkaniaaaGreatDoorTopInM
import Derived.Test.YtajhndakkaniaaaGreatDoorTopSM
namespace Go.Proofs.YtajhndakkaniaaaGreatDoor
open Go.RowKit

namespace Ev
noncomputable def intsC : List CV → Option (List Int)
  | [] => some []
  | .k (.int .i64 z) :: r => match intsC r with
    | some l => some (z :: l)
    | none => none
  | _ => none
theorem intsC_ok {φ : Ren} : ∀ {r : List CV} {zs : List Int}, intsC r = some zs → cvsV φ r = some (zs.map (Value.int .i64))
  | [], zs, h => by
    cases h
    rfl
  | c :: r, zs, h => by
    unfold intsC at h
    split at h
    · rename_i e
      cases e
    · rename_i z r' e
      cases e
      split at h
      · rename_i l hl
        cases h
        exact cvsV_mk rfl (intsC_ok hl)
      · cases h
    · cases h
noncomputable def playP : List TV → Hp → Option (TV × Hp) := fun a H => match a with
  | [.s (.c (.k v))] => match valEq v (.string ⟨#[105, 100, 108, 101, 10]⟩) with
    | true => some (.s (.c (.k (.string ⟨#[101, 114, 114, 111, 114, 32, 53, 10]⟩))), H)
    | false => none
  | _ => none
noncomputable def collM : List TV → Hp → Option (TV × Hp) := fun a H => match a with
  | [.s (.c (.f g [(b, q)]))] => match Nat.beq g 321 with
    | true => match H.cells b with
      | some (_, _, cs) => match nth cs q with
        | some (.m y) => match H.mp y with
          | some [] => some (.s (.c (.k (.slice none 0 0))), H)
          | some [(_, .p x o)] => some (.s (.c (.s H.nx 0 0 1 0)), H.new (.cells 211 false [.p x o]))
          | _ => none
        | _ => none
      | none => none
    | false => none
  | _ => none
/-- all of nothing -/
noncomputable def delE : List TV → Hp → Option (TV × Hp) := fun a H => match a with
  | [.s (.c (.m y)), .s (.c (.f _ _))] => match H.mp y with
    | some [] => some (.t [], H)
    | _ => none
  | _ => none
noncomputable def collI : List TV → Hp → Option (TV × Hp) := fun a H => match a with
  | [.s (.c (.f g [(b, q)]))] => match Nat.beq g 429 with
    | true => match H.cells b with
      | some (_, _, cs) => match nth cs q with
        | some (.s y o _ n _) => match H.cells y with
          | some (_, _, ys) => match ldN ys o n with
            | some r => match intsC r with
              | some _ => match Nat.blt 0 n && Nat.blt n 1000 with
                | true => some (.s (.c (.s H.nx 0 0 n 0)), H.new (.cells 3 false r))
                | false => none
              | none => none
            | none => none
          | none => none
        | _ => none
      | none => none
    | false => none
  | _ => none
noncomputable def prim : Pr := fun f => match Nat.beq f 94 with
  | true => some serveP
  | false => match Nat.beq f 41 with
    | true => some encP
    | false => match Nat.beq f 39 with
      | true => some getP
      | false => match Nat.beq f 292 with
        | true => some collM
        | false => match Nat.beq f 427 with
          | true => some collI
          | false => match Nat.beq f 267 with
            | true => some delE
            | false => match Nat.beq f 22 with
              | true => some playP
              | false => match Nat.beq f 42 with
                | true => some eqP
                | false => match Nat.beq f 269 with
                  | true => some insP
                  | false => none
theorem playP_ok {l : List TV} {H H' : Hp} {v : TV} (h : playP l H = some (v, H')) {B : Nat} {φ : Ren} {args : Array Value} {w : World} (ha : tvsV φ l = some args.toList) (sr : SR Tryz.prog B φ H w) :
    Calls Tryz.prog 22 args w fun e w' => ∃ u φ', e = .returned u ∧ tvV φ' v = some u ∧ Ext Tryz.prog B φ H w φ' H' w' := by
  unfold playP at h
  split at h
  · rename_i u
    split at h
    · rename_i e
      have e := valEq_ok e
      subst e
      cases h
      simp only [tvsV, tvV, svV, cvV] at ha
      injection ha with ha
      have : args = #[.string ⟨#[105, 100, 108, 101, 10]⟩] := Array.ext' ha.symm
      subst this
      refine (play_idle w).mono ?_
      rintro e w' ⟨rfl, hb⟩
      exact ⟨_, φ, rfl, rfl, Ext.of_below sr hb⟩
    · cases h
  · cases h
theorem collM_ok {l : List TV} {H H' : Hp} {v : TV} (h : collM l H = some (v, H')) {B : Nat} {φ : Ren} {args : Array Value} {w : World} (ha : tvsV φ l = some args.toList) (sr : SR Tryz.prog B φ H w) (hB : B ≤ w.heap.size) :
    Calls Tryz.prog 292 args w fun e w' => ∃ u φ', e = .returned u ∧ tvV φ' v = some u ∧ Ext Tryz.prog B φ H w φ' H' w' := by
  unfold collM at h
  split at h
  · rename_i g b q
    split at h
    · rename_i eg
      have eg := nb eg
      subst eg
      split at h
      · rename_i T st cs hx
        split at h
        · rename_i y hc
          obtain ⟨l, u, h1, h2, h3, h4⟩ := cell_some sr hx hc
          simp only [tvsV, tvV, svV, cvV, ptrsV, ptrV, h1] at ha
          injection ha with ha
          have := Array.ext' (ys := #[Value.func (.func 321) #[] #[.pointer (some ⟨l.b, l.s + q, none⟩)]]) ha.symm
          subst this
          split at h
          · rename_i ho
            cases h
            obtain ⟨ly, es, clock, m1, m2, m3, _⟩ := sr.map ho
            have e0 : es = #[] := by
              have := mapR.len m3
              exact Array.eq_empty_of_size_eq_zero (by simpa using this)
            subst e0
            simp only [cvV, m1] at h3
            cases h3
            refine (collect_none l.b (l.s + q) ly.b clock w h4 (sr.lt (Hp.mp_get ho) m1) h2 m2).mono ?_
            rintro e w' ⟨rfl, hb⟩
            exact ⟨_, φ, rfl, rfl, Ext.of_below sr hb⟩
          · rename_i k x o ho
            cases h
            obtain ⟨ly, es, clock, m1, m2, m3, _⟩ := sr.map ho
            simp only [cvV, m1] at h3
            cases h3
            obtain ⟨e, e0⟩ : ∃ e, es.toList = [e] := by
              have := mapR.len m3
              exact List.length_eq_one_iff.1 this
            rw [e0] at m3
            obtain ⟨_, hv, hbo, _, _⟩ := m3
            have hv1 := hv
            simp only [cvV, ptrV] at hv1
            cases hx1 : φ x with
            | none => rw [hx1] at hv1; cases hv1
            | some lx =>
              rw [hx1] at hv1
              injection hv1 with hv1
              have hsz : es.size = 1 := by rw [← Array.length_toList, e0]; rfl
              refine (collect_vals l.b (l.s + q) ly.b clock es [⟨lx.b, lx.s + o, none⟩] (fun x hx => by rw [e0, List.mem_singleton] at hx; rw [hx]; exact hbo) (by rw [e0]; simp) (by rw [e0, List.map_singleton, List.map_singleton, ← hv1]) (by omega) w h4 (sr.lt (Hp.mp_get ho) m1) h2 m2).mono ?_
              rintro e1 w' ⟨u, ss, rfl, hp, hown, hb⟩
              rw [List.map_singleton] at hp
              have hp := List.perm_singleton.1 hp
              have hsl : ss.length = 1 := by rw [← List.length_map (f := ptrOf), hp]; rfl
              rw [hsl, hp] at hown
              rcases hown.2 with ⟨_, hz0⟩ | ⟨g, cap, cur, rfl, k1, k2, k3, k4, k5, k6⟩
              · cases hz0
              · obtain ⟨i0, hi, hz0, hz1, hz2⟩ := info_parts info_in
                have hle := sr.le_name ⟨g, 0, cap⟩
                have hx' := (Ext.of_below sr hb).adoptP (l := ⟨g, 0, cap⟩) (a := .cells 211 false [.p x o]) k2 ⟨cur, (0, 0), i0, rfl, hi, by show 0 + cap * i0.size ≤ _; rw [hz1]; omega, ⟨by show 1 ≤ cap * i0.size; rw [hz1]; omega, by show cap ≤ 9223372036854775807; unfold maxLen at *; omega⟩, .inl rfl, fun j c hj => by
                  cases j with
                  | succ j => simp at hj
                  | zero =>
                    rw [List.getElem?_cons_zero] at hj
                    cases hj
                    refine ⟨_, ?_, hle.cv hv⟩
                    have : cur.toList.take 1 = [e.val] := by rw [hv1.symm]; simpa using k6
                    have h0 : cur.toList[0]? = some e.val := by
                      cases hcl : cur.toList with
                      | nil => rw [hcl] at this; cases this
                      | cons a r => rw [hcl] at this; simp at this; rw [this]; rfl
                    rw [Array.getElem?_toList] at h0
                    exact h0⟩ k1 (fun x o k hx hk => Nat.ne_of_lt (Nat.lt_of_lt_of_le (sr.lt hx hk) k1)) hB
                refine ⟨_, _, rfl, ?_, hx'⟩
                simp only [tvV, svV, cvV, name_same]
                rw [if_pos (by omega)]
                simp
          · cases h
        · cases h
      · cases h
    · cases h
  · cases h
theorem delE_ok {l : List TV} {H H' : Hp} {v : TV} (h : delE l H = some (v, H')) {B : Nat} {φ : Ren} {args : Array Value} {w : World} (ha : tvsV φ l = some args.toList) (sr : SR Tryz.prog B φ H w) :
    Calls Tryz.prog 267 args w fun e w' => ∃ u φ', e = .returned u ∧ tvV φ' v = some u ∧ Ext Tryz.prog B φ H w φ' H' w' := by
  unfold delE at h
  split at h
  · rename_i y f cs
    split at h
    · rename_i ho
      cases h
      obtain ⟨ly, es, clock, m1, m2, m3, _⟩ := sr.map ho
      have e0 : es = #[] := by
        have := mapR.len m3
        exact Array.eq_empty_of_size_eq_zero (by simpa using this)
      subst e0
      simp only [tvsV, tvV, svV, cvV, m1] at ha
      cases hp : ptrsV φ cs with
      | none => rw [hp] at ha; cases ha
      | some ps =>
        rw [hp] at ha
        injection ha with ha
        have := Array.ext' (ys := #[Value.map (some ly.b), .func (.func f) #[] ps.toArray]) ha.symm
        subst this
        refine (delete_none ly.b clock f ps.toArray w m2).mono ?_
        rintro e w' ⟨rfl, hb⟩
        exact ⟨_, φ, rfl, rfl, Ext.of_below sr hb⟩
    · cases h
  · cases h
theorem collI_ok {l : List TV} {H H' : Hp} {v : TV} (h : collI l H = some (v, H')) {B : Nat} {φ : Ren} {args : Array Value} {w : World} (ha : tvsV φ l = some args.toList) (sr : SR Tryz.prog B φ H w) (hB : B ≤ w.heap.size) :
    Calls Tryz.prog 427 args w fun e w' => ∃ u φ', e = .returned u ∧ tvV φ' v = some u ∧ Ext Tryz.prog B φ H w φ' H' w' := by
  unfold collI at h
  split at h
  · rename_i g b q
    split at h
    · rename_i eg
      have eg := nb eg
      subst eg
      split at h
      · rename_i T st cs hx
        split at h
        · rename_i y o d n q' hc
          split at h
          · rename_i Ty sty ys hy
            split at h
            · rename_i r hr
              split at h
              · rename_i zs hz
                split at h
                · rename_i hn
                  rw [Bool.and_eq_true, Nat.blt_eq, Nat.blt_eq] at hn
                  cases h
                  obtain ⟨l, u, h1, h2, h3, h4⟩ := cell_some sr hx hc
                  obtain ⟨ly, vs, m1, m2, m3, m4⟩ := sr.row hy hr
                  have hv := intsC_ok (φ := φ) hz
                  rw [m2] at hv
                  cases hv
                  have hlen : zs.length = n := by rw [← m3, List.length_map]
                  simp only [cvV, m1] at h3
                  split at h3
                  · rename_i hroom
                    cases h3
                    rw [if_neg (by omega)] at h2
                    simp only [tvsV, tvV, svV, cvV, ptrsV, ptrV, h1] at ha
                    injection ha with ha
                    have := Array.ext' (ys := #[Value.func (.func 429) #[] #[.pointer (some ⟨l.b, l.s + q, none⟩)]]) ha.symm
                    subst this
                    rw [← hlen] at h2
                    refine (collect_ints l.b (l.s + q) ly.b (ly.s + o) _ zs (by omega) w h4 (sr.lt (Hp.cells_get hy) m1) h2 fun j hj => ?_).mono ?_
                    · refine m4 j _ ?_
                      rw [List.getElem?_map, List.getElem?_eq_getElem hj]
                      rfl
                    · rintro e w' ⟨u, rfl, hown, hb⟩
                      rcases hown.2 with ⟨_, hz0⟩ | ⟨g, cap, cur, rfl, k1, k2, k3, k4, k5, k6⟩
                      · omega
                      · obtain ⟨i0, hi, hz0, hz1, hz2⟩ := info_parts info_int
                        have hx' := (Ext.of_below sr hb).adopt (l := ⟨g, 0, cap⟩) (a := .cells 3 false r) k2 (fun φ' => ⟨cur, (0, 0), i0, rfl, hi, by show 0 + cap * i0.size ≤ _; rw [hz1]; omega, ⟨by show r.length ≤ cap * i0.size; rw [hz1, (ldN_get hr).1]; omega, by show cap ≤ 9223372036854775807; unfold maxLen at *; omega⟩, .inl rfl, fun j c hj => by
                          have hv := intsC_ok (φ := φ') hz
                          obtain ⟨u, q1, q2⟩ := cvsV_get hv j c hj
                          refine ⟨u, ?_, q2⟩
                          have hjl : j < zs.length := by
                            have := (List.getElem?_eq_some_iff.1 q1).1
                            rwa [List.length_map] at this
                          rw [Nat.zero_add, ← Array.getElem?_toList, ← q1, ← k6, List.getElem?_take_of_lt (by omega)]⟩) k1 (fun x o k hx hk => Nat.ne_of_lt (Nat.lt_of_lt_of_le (sr.lt hx hk) k1)) hB
                        refine ⟨_, _, rfl, ?_, hx'⟩
                        simp only [tvV, svV, cvV, name_same]
                        rw [if_pos (by omega), ← hlen]
                        simp
                  · cases h3
                · cases h
              · cases h
            · cases h
          · cases h
        · cases h
      · cases h
    · cases h
  · cases h
theorem prim_ok (B : Nat) : PrimOk Tryz.prog B prim := fun f g hf l H v H' h => by
  unfold prim at hf
  split at hf
  · rename_i e
    have e := nb e
    subst e
    cases hf
    exact ⟨good_of Tryz.func94 rfl (by kernel_rfl), fun φ args w ha sr _ => serveP_ok h ha sr⟩
  · split at hf
    · rename_i e
      have e := nb e
      subst e
      cases hf
      exact ⟨good_of Tryz.func41 rfl (by kernel_rfl), fun φ args w ha sr hB => encP_ok h ha sr hB⟩
    · split at hf
      · rename_i e
        have e := nb e
        subst e
        cases hf
        exact ⟨good_of Tryz.func39 rfl (by kernel_rfl), fun φ args w ha sr _ => getP_ok h ha sr⟩
      · split at hf
        · rename_i e
          have e := nb e
          subst e
          cases hf
          exact ⟨good_of Tryz.func292 rfl (by kernel_rfl), fun φ args w ha sr hB => collM_ok h ha sr hB⟩
        · split at hf
          · rename_i e
            have e := nb e
            subst e
            cases hf
            exact ⟨good_of Tryz.func427 rfl (by kernel_rfl), fun φ args w ha sr hB => collI_ok h ha sr hB⟩
          · split at hf
            · rename_i e
              have e := nb e
              subst e
              cases hf
              exact ⟨good_of Tryz.func267 rfl (by kernel_rfl), fun φ args w ha sr _ => delE_ok h ha sr⟩
            · split at hf
              · rename_i e
                have e := nb e
                subst e
                cases hf
                exact ⟨good_of Tryz.func22 rfl (by kernel_rfl), fun φ args w ha sr _ => playP_ok h ha sr⟩
              · split at hf
                · rename_i e
                  have e := nb e
                  subst e
                  cases hf
                  exact ⟨good_of Tryz.func42 rfl (by kernel_rfl), fun φ args w ha sr _ => eqP_ok h ha sr⟩
                · split at hf
                  · rename_i e
                    have e := nb e
                    subst e
                    cases hf
                    exact ⟨good_of Tryz.func269 rfl (by kernel_rfl), fun φ args w ha sr hB => insP_ok h ha sr hB⟩
                  · cases hf
/-- the slots of new variables, which a region may make early: what stood there is forgotten -/
noncomputable def alloD : List Oper → List Tmp
  | [] => []
  | o :: r => match o.op, o.dst with
    | .alloc _, some t => t :: alloD r
    | _, _ => alloD r
noncomputable def forgT (T : Tm) : List Tmp → Tm
  | [] => T
  | t :: r => (forgT T r).upd none (key t)
theorem forgT_get {T : Tm} {t : Tmp} {tv : TV} : ∀ {l : List Tmp}, (forgT T l).get (key t) = some tv → T.get (key t) = some tv
  | [], h => h
  | s :: r, h => by
    by_cases e : key t = key s
    · rw [e] at h
      have : (none : Option TV) = some tv := (Tr.get_upd none (key s) (forgT T r)).symm.trans h
      cases this
    · exact forgT_get (l := r) ((Tr.get_other none (key s) (key t) (forgT T r) e).symm.trans h)
theorem forg_fr {φ : Ren} {T : Tm} {N : Nat} {a : Act} (h : Fr φ T N a) (l : List Tmp) : Fr φ (forgT T l) N a := ⟨h.size, h.defers, fun t tv ht => h.fr t tv (forgT_get ht)⟩
noncomputable def drawF (P : Program) (call : Cl) : Dr := fun N ops s => drawD P call N ops (forgT s.1 (alloD ops.toList), s.2)
theorem drawF_ok {P : Program} {B : Nat} {call : Cl} (hc : CallOk P B call) (hm : P.follows .mixedOrders = true) : DrawOk P B (drawF P call) := fun N ops T H T' H' h φ a w Q id hf sr hB hk => drawD_ok hc hm N ops (forgT T (alloD ops.toList)) H T' H' h φ a w Q id (forg_fr hf _) sr hB hk
noncomputable def ev (n : Nat) : Cl := evF Tryz.prog prim (drawF Tryz.prog) n
theorem ev_ok (B n : Nat) : CallOk Tryz.prog B (ev n) := evF_ok (prim_ok B) calm_all (fun _ h => drawF_ok h mixed) n
end Ev
end Go.Proofs.YtajhndakkaniaaaGreatDoor
