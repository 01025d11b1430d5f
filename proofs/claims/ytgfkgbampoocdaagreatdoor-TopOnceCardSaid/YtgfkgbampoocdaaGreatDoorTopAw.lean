/- What is given to the evaluator: shell.Play, slices.Collect; what the document fixes comes true. -/
import Derived.Test.YtgfkgbampoocdaaGreatDoorEvZ
import Derived.Test.YtgfkgbampoocdaaGreatDoorTopCol
import Derived.Test.YtgfkgbampoocdaaGreatDoorTopPlay
namespace Go.Proofs.YtgfkgbampoocdaaGreatDoor
open Go.RowKit

namespace Ev
theorem Ext.of_below {P : Program} {B : Nat} {φ : Ren} {H : Hp} {w w' : World} (h : SR P B φ H w) (hb : Below w.heap.size w w') : Ext P B φ H w φ H w' :=
  ⟨Le.refl _, ⟨fun x o hx => by
    obtain ⟨l, obj, h1, h2, h3, h4⟩ := h.live x o hx
    exact ⟨l, obj, h1, by rw [hb.block _ (h.lt hx h1)]; exact h2, h3, h4⟩, h.inj, h.fresh⟩, hb.size, fun b hlt _ => hb.block b hlt, fun x o l hx hl => .inl ⟨x, o, l, hx, hl, rfl⟩, hb.os, hb.tape, hb.output, Nat.le_refl _⟩
noncomputable def intsC : List CV → Option (List Int)
  | [] => some []
  | .k (.int .i64 z) :: r => match intsC r with
    | some l => some (z :: l)
    | none => none
  | _ => none
theorem intsC_ok {φ : Ren} : ∀ {r : List CV} {zs : List Int}, intsC r = some zs → cvsV φ r = some (zs.map (Value.int .i64))
  | [], zs, h => by
    cases h
    rfl
  | c :: r, zs, h => by
    unfold intsC at h
    split at h
    · rename_i e
      cases e
    · rename_i z r' e
      cases e
      split at h
      · rename_i l hl
        cases h
        exact cvsV_mk rfl (intsC_ok hl)
      · cases h
    · cases h
noncomputable def playP : List TV → Hp → Option (TV × Hp) := fun a H => match a with
  | [.s (.c (.k v))] => match valEq v (.string ⟨#[105, 100, 108, 101, 10]⟩) with
    | true => some (.s (.c (.k (.string ⟨#[101, 114, 114, 111, 114, 32, 53, 10]⟩))), H)
    | false => none
  | _ => none
noncomputable def collM : List TV → Hp → Option (TV × Hp) := fun a H => match a with
  | [.s (.c (.f g [(b, q)]))] => match Nat.beq g 367 with
    | true => match H.cells b with
      | some (_, _, cs) => match nth cs q with
        | some (.m y) => match isEmap H y with
          | true => some (.s (.c (.k (.slice none 0 0))), H)
          | false => none
        | _ => none
      | none => none
    | false => none
  | _ => none
noncomputable def collI : List TV → Hp → Option (TV × Hp) := fun a H => match a with
  | [.s (.c (.f g [(b, q)]))] => match Nat.beq g 423 with
    | true => match H.cells b with
      | some (_, _, cs) => match nth cs q with
        | some (.s y o _ n _) => match H.cells y with
          | some (_, _, ys) => match ldN ys o n with
            | some r => match intsC r with
              | some _ => match Nat.blt 0 n && Nat.blt n 1000 with
                | true => some (.s (.c (.s H.nx 0 0 n 0)), H.new (.cells 3 false r))
                | false => none
              | none => none
            | none => none
          | none => none
        | _ => none
      | none => none
    | false => none
  | _ => none
noncomputable def prim : Pr := fun f => match Nat.beq f 22 with
  | true => some playP
  | false => match Nat.beq f 353 with
    | true => some collM
    | false => match Nat.beq f 421 with
      | true => some collI
      | false => none
theorem cell_some {P : Program} {B : Nat} {φ : Ren} {H : Hp} {w : World} (sr : SR P B φ H w) {x : Bn} {T : TypeId} {st : Bool} {cs : List CV} {q : Nat} {c : CV} (hx : H.cells x = some (T, st, cs)) (hc : nth cs q = some c) :
    ∃ l v, φ x = some l ∧ w.cell? ⟨l.b, l.s + q, none⟩ = some v ∧ cvV φ c = some v ∧ l.b < w.heap.size := by
  obtain ⟨l, arr, fz, i, h1, h2, _, _, _, _, h7, _⟩ := sr.block hx
  rw [nth_eq] at hc
  obtain ⟨v, k1, k2⟩ := h7 q c hc
  exact ⟨l, v, h1, by rw [cell_of h2]; exact k1, k2, sr.lt (Hp.cells_get hx) h1⟩
theorem good_of {f : FuncId} {fn : Func} {c : Code} (h1 : Tryz.prog.funcs[f]? = some fn) (h2 : fn.body = some c) (h3 : (fn.name == "runtime.NumGoroutine") = false) : Good Tryz.prog f := ⟨fn, c, h1, h2, h3⟩
theorem playP_ok {l : List TV} {H H' : Hp} {v : TV} (h : playP l H = some (v, H')) {B : Nat} {φ : Ren} {args : Array Value} {w : World} (ha : tvsV φ l = some args.toList) (sr : SR Tryz.prog B φ H w) :
    Calls Tryz.prog 22 args w fun e w' => ∃ u φ', e = .returned u ∧ tvV φ' v = some u ∧ Ext Tryz.prog B φ H w φ' H' w' := by
  unfold playP at h
  split at h
  · rename_i u
    split at h
    · rename_i e
      have e := valEq_ok e
      subst e
      cases h
      simp only [tvsV, tvV, svV, cvV] at ha
      injection ha with ha
      have : args = #[.string ⟨#[105, 100, 108, 101, 10]⟩] := Array.ext' ha.symm
      subst this
      refine (play_idle w).mono ?_
      rintro e w' ⟨rfl, hb⟩
      exact ⟨_, φ, rfl, rfl, Ext.of_below sr hb⟩
    · cases h
  · cases h
theorem collM_ok {l : List TV} {H H' : Hp} {v : TV} (h : collM l H = some (v, H')) {B : Nat} {φ : Ren} {args : Array Value} {w : World} (ha : tvsV φ l = some args.toList) (sr : SR Tryz.prog B φ H w) :
    Calls Tryz.prog 353 args w fun e w' => ∃ u φ', e = .returned u ∧ tvV φ' v = some u ∧ Ext Tryz.prog B φ H w φ' H' w' := by
  unfold collM at h
  split at h
  · rename_i g b q
    split at h
    · rename_i eg
      have eg := nb eg
      subst eg
      split at h
      · rename_i T st cs hx
        split at h
        · rename_i y hc
          split at h
          · rename_i he
            cases h
            obtain ⟨l, u, h1, h2, h3, h4⟩ := cell_some sr hx hc
            unfold isEmap at he
            split at he
            · rename_i ho
              obtain ⟨ly, obj, m1, m2, ⟨clock, rfl⟩, _⟩ := sr.live _ _ ho
              simp only [cvV, m1] at h3
              cases h3
              simp only [tvsV, tvV, svV, cvV, ptrsV, ptrV, h1] at ha
              injection ha with ha
              have := Array.ext' (ys := #[Value.func (.func 367) #[] #[.pointer (some ⟨l.b, l.s + q, none⟩)]]) ha.symm
              subst this
              refine (collect_none l.b (l.s + q) ly.b clock w h4 (sr.lt ho m1) h2 m2).mono ?_
              rintro e w' ⟨rfl, hb⟩
              exact ⟨_, φ, rfl, rfl, Ext.of_below sr hb⟩
            · cases he
          · cases h
        · cases h
      · cases h
    · cases h
  · cases h
theorem collI_ok {l : List TV} {H H' : Hp} {v : TV} (h : collI l H = some (v, H')) {B : Nat} {φ : Ren} {args : Array Value} {w : World} (ha : tvsV φ l = some args.toList) (sr : SR Tryz.prog B φ H w) (hB : B ≤ w.heap.size) :
    Calls Tryz.prog 421 args w fun e w' => ∃ u φ', e = .returned u ∧ tvV φ' v = some u ∧ Ext Tryz.prog B φ H w φ' H' w' := by
  unfold collI at h
  split at h
  · rename_i g b q
    split at h
    · rename_i eg
      have eg := nb eg
      subst eg
      split at h
      · rename_i T st cs hx
        split at h
        · rename_i y o d n q' hc
          split at h
          · rename_i Ty sty ys hy
            split at h
            · rename_i r hr
              split at h
              · rename_i zs hz
                split at h
                · rename_i hn
                  rw [Bool.and_eq_true, Nat.blt_eq, Nat.blt_eq] at hn
                  cases h
                  obtain ⟨l, u, h1, h2, h3, h4⟩ := cell_some sr hx hc
                  obtain ⟨ly, vs, m1, m2, m3, m4⟩ := sr.row hy hr
                  have hv := intsC_ok (φ := φ) hz
                  rw [m2] at hv
                  cases hv
                  have hlen : zs.length = n := by rw [← m3, List.length_map]
                  simp only [cvV, m1] at h3
                  split at h3
                  · rename_i hroom
                    cases h3
                    rw [if_neg (by omega)] at h2
                    simp only [tvsV, tvV, svV, cvV, ptrsV, ptrV, h1] at ha
                    injection ha with ha
                    have := Array.ext' (ys := #[Value.func (.func 423) #[] #[.pointer (some ⟨l.b, l.s + q, none⟩)]]) ha.symm
                    subst this
                    rw [← hlen] at h2
                    refine (collect_ints l.b (l.s + q) ly.b (ly.s + o) _ zs (by omega) w h4 (sr.lt (Hp.cells_get hy) m1) h2 fun j hj => ?_).mono ?_
                    · refine m4 j _ ?_
                      rw [List.getElem?_map, List.getElem?_eq_getElem hj]
                      rfl
                    · rintro e w' ⟨u, rfl, hown, hb⟩
                      rcases hown.2 with ⟨_, hz0⟩ | ⟨g, cap, cur, rfl, k1, k2, k3, k4, k5, k6⟩
                      · omega
                      · obtain ⟨i0, hi, hz0, hz1, hz2⟩ := info_parts info_int
                        have hx' := (Ext.of_below sr hb).adopt (l := ⟨g, 0, cap⟩) (a := .cells 3 false r) k2 (fun φ' => ⟨cur, (0, 0), i0, rfl, hi, by show 0 + cap * i0.size ≤ _; rw [hz1]; omega, by show r.length ≤ cap * i0.size; rw [hz1, (ldN_get hr).1]; omega, .inl rfl, fun j c hj => by
                          have hv := intsC_ok (φ := φ') hz
                          obtain ⟨u, q1, q2⟩ := cvsV_get hv j c hj
                          refine ⟨u, ?_, q2⟩
                          have hjl : j < zs.length := by
                            have := (List.getElem?_eq_some_iff.1 q1).1
                            rwa [List.length_map] at this
                          rw [Nat.zero_add, ← Array.getElem?_toList, ← q1, ← k6, List.getElem?_take_of_lt (by omega)]⟩) k1 (fun x o k hx hk => Nat.ne_of_lt (Nat.lt_of_lt_of_le (sr.lt hx hk) k1)) hB
                        refine ⟨_, _, rfl, ?_, hx'⟩
                        simp only [tvV, svV, cvV, name_same]
                        rw [if_pos (by omega), ← hlen]
                        simp
                  · cases h3
                · cases h
              · cases h
            · cases h
          · cases h
        · cases h
      · cases h
    · cases h
  · cases h
theorem prim_ok (B : Nat) : PrimOk Tryz.prog B prim := fun f g hf l H v H' h => by
  unfold prim at hf
  split at hf
  · rename_i e
    have e := nb e
    subst e
    cases hf
    exact ⟨good_of Tryz.func22 rfl (by kernel_rfl), fun φ args w ha sr _ => playP_ok h ha sr⟩
  · split at hf
    · rename_i e
      have e := nb e
      subst e
      cases hf
      exact ⟨good_of Tryz.func353 rfl (by kernel_rfl), fun φ args w ha sr _ => collM_ok h ha sr⟩
    · split at hf
      · rename_i e
        have e := nb e
        subst e
        cases hf
        exact ⟨good_of Tryz.func421 rfl (by kernel_rfl), fun φ args w ha sr hB => collI_ok h ha sr hB⟩
      · cases hf
noncomputable def calmL (l : List Func) : Bool := List.rec (motive := fun _ => Bool) true (fun f _ ih => match f.name == "runtime.NumGoroutine" with
  | true => false
  | false => ih) l
theorem calmL_ok : ∀ {l : List Func}, calmL l = true → ∀ f ∈ l, (f.name == "runtime.NumGoroutine") = false
  | [], _, f, hf => by cases hf
  | g :: r, h, f, hf => by
    have h : (match g.name == "runtime.NumGoroutine" with
      | true => false
      | false => calmL r) = true := h
    split at h
    · cases h
    · rename_i e
      rcases List.mem_cons.1 hf with rfl | hf
      · exact e
      · exact calmL_ok h f hf
set_option maxRecDepth 100000 in
theorem calm_all : Calm Tryz.prog := fun f fn h => by
  have hc : calmL Tryz.prog.funcs.toList = true := by kernel_rfl
  exact calmL_ok hc fn (List.mem_of_getElem? (i := f) (by rw [Array.getElem?_toList]; exact h))
theorem mixed : Tryz.prog.follows .mixedOrders = true := by kernel_rfl
noncomputable def ev (n : Nat) : Cl := evF Tryz.prog prim (drawD Tryz.prog) n
theorem ev_ok (B n : Nat) : CallOk Tryz.prog B (ev n) := evF_ok (prim_ok B) calm_all (fun _ h => drawD_ok h mixed) n
end Ev
end Go.Proofs.YtgfkgbampoocdaaGreatDoor
