/- An evaluator for closed runs: structs of numbers compared, bytes to a string, an empty map looked into. -/
import Derived.Test.YtajhndakkaniaaaGreatDoorEvMB
import Derived.Laws.StructEq
namespace Go.Proofs.YtajhndakkaniaaaGreatDoor
open Go

namespace Ev
/-- a struct of numbers: where its fields lie -/
noncomputable def offsOf (P : Program) : List Field → Option (List Nat)
  | [] => some []
  | f :: r => match und P f.type, offsOf P r with
    | some (.int _), some l => if f.name == "_" then none else some (f.offset :: l)
    | _, _ => none
noncomputable def stKey (P : Program) (t : TypeId) : Option (List Nat) := match und P t with
  | some (.struct _) => if P.stoodInHeld t || P.eqGuardType P.depth t then none else offsOf P (P.fieldsOf t).toList
  | _ => none
noncomputable def eqKey : List Nat → List CV → List CV → Option Bool
  | [], _, _ => some true
  | q :: r, l, m => match l[q]?, m[q]? with
    | some (.k (.int k a)), some (.k (.int k' b)) => if k = k' then (if a == b then eqKey r l m else some false) else none
    | _, _ => none
noncomputable def bytesOf : List CV → Option (List UInt8)
  | [] => some []
  | .k (.int .u8 n) :: r => match natOf n, bytesOf r with
    | some k, some l => some (UInt8.ofNat k :: l)
    | _, _ => none
  | _ => none
/-- a byte slice to a string? -/
noncomputable def stBS (P : Program) (s t : TypeId) : Bool := match und P s, und P t with
  | some (.slice e), some .string => match und P e, inf P e with
    | some (.int .u8), some i => Nat.beq i.size 1
    | _, _ => false
  | _, _ => false
section
variable {P : Program} {B : Nat} {T : Tm} {H : Hp} {o : Oper}
theorem eqKey_ok {φ : Ren} {w : World} {l m : List CV} {xs ys : List Value} (hx : cvsV φ l = some xs) (hy : cvsV φ m = some ys) (d : Nat) : ∀ {fs : List Field} {os : List Nat} {r : Bool}, offsOf P fs = some os → eqKey os l m = some r → (Op.eqFields (d + 1) xs.toArray ys.toArray fs).run P w = .ok r w
  | [], os, r, h, e => by
    cases h
    cases e
    rfl
  | f :: fs, os, r, h, e => by
    simp only [offsOf, und_eq] at h
    split at h
    · rename_i kd l' e1 e2
      split at h
      · cases h
      · rename_i e3
        cases h
        simp only [eqKey] at e
        split at e
        · rename_i k a k' b e4 e5
          split at e
          · rename_i e6
            subst e6
            obtain ⟨u, m1, m2⟩ := cvsV_get hx _ _ e4
            obtain ⟨v, n1, n2⟩ := cvsV_get hy _ _ e5
            cases m2
            cases n2
            have hag : ∀ w, (isAgg f.type).run P w = .ok false w := fun w => by simp [isAgg, run_underlying e1, go_sem]
            have p1 : (part f.type xs.toArray f.offset).run P w = .ok (.int k a) w := by
              simp only [part, Sem.run_bind, hag, Result.andThen_ok]
              simp [m1, go_sem]
            have p2 : (part f.type ys.toArray f.offset).run P w = .ok (.int k b) w := by
              simp only [part, Sem.run_bind, hag, Result.andThen_ok]
              simp [n1, go_sem]
            have p3 := run_equalIn_int (P := P) w d f.type k kd a b e1
            have hn : f.name ≠ "_" := fun q => e3 (by rw [q]; rfl)
            simp only [Op.eqFields]
            rw [if_pos hn, Sem.run_bind, p1, Result.andThen_ok, Sem.run_bind, p2, Result.andThen_ok, Sem.run_bind, p3, Result.andThen_ok]
            cases hab : a == b with
            | true =>
              rw [hab] at e
              simp only [Bool.not_true, Bool.false_eq_true, if_false]
              exact eqKey_ok hx hy d e2 e
            | false =>
              rw [hab] at e
              cases e
              simp only [Bool.not_false, if_true]
              rfl
          · cases e
        · cases e
    · cases h
theorem yields_eqKey {op : BinOp} {tw : Two} {t t' : TypeId} {x y : Operand} {l m : List CV} {os : List Nat} {r : Bool} (ho : o.op = .binOp op t x y t') (htw : twoOf op = some tw) (hs : stKey P t = some os) (hx : opa T x = some l) (hy : opa T y = some m) (he : eqKey os l m = some r) : Yields P B T H o (some (.s (.c (.k (tw.of r))))) := fun φ ρ w h _ => by
  obtain ⟨xs, h1, h2⟩ := opa_ok h hx
  obtain ⟨ys, h3, h4⟩ := opa_ok h hy
  unfold stKey at hs
  simp only [und_eq] at hs
  split at hs
  · rename_i fs e1
    split at hs
    · cases hs
    · rename_i e2
      have e3 : P.stoodInHeld t = false ∧ P.eqGuardType P.depth t = false := by simpa using e2
      have e4 : P.underlying t = some (.struct (P.fieldsOf t)) := by
        rw [e1]
        unfold Program.fieldsOf
        rw [e1]
      have k1 := eqKey_ok (P := P) (w := w) h2 h4 9998 hs he
      have k2 := run_equalIn_struct (P := P) w 9999 t xs.toArray ys.toArray e4 e3.1
      rw [k1] at k2
      have k3 := run_eqGuard_agg (P := P) w op t x y xs.toArray ys.toArray e3.2
      refine ⟨tw.of r, fun tv e => by cases e; rfl, ?_⟩
      have key : (binOp op t (.agg xs.toArray) (.agg ys.toArray)).run P w = .ok (tw.of r) w := by
        cases op <;> simp only [twoOf] at htw <;> first | cases htw | skip
        · rw [run_eql_struct, show (10000 : Nat) = 9999 + 1 from rfl, k2]
          rfl
        · rw [run_neq_struct, show (10000 : Nat) = 9999 + 1 from rfl, k2]
          rfl
      simp only [execOp, ho, h1, h3, Sem.run_bind, k3, Result.andThen_ok, key]
      rfl
  · cases hs
theorem bytesOf_ok {φ : Ren} : ∀ {l : List CV} {bs : List UInt8} {vs : List Value}, bytesOf l = some bs → cvsV φ l = some vs → ∃ ns : List Int, vs = ns.map (Value.int .u8) ∧ ns.map (fun n => UInt8.ofNat n.toNat) = bs
  | [], bs, vs, h, hv => by
    cases h
    cases hv
    exact ⟨[], rfl, rfl⟩
  | c :: r, bs, vs, h, hv => by
    obtain ⟨v, l, h1, h2, rfl⟩ := cvsV_cons hv
    unfold bytesOf at h
    split at h
    · rename_i e; cases e
    · rename_i n r' e
      cases e
      split at h
      · rename_i k l' e1 e2
        cases h
        obtain ⟨ns, k1, k2⟩ := bytesOf_ok e2 h2
        cases h1
        refine ⟨n :: ns, by rw [List.map_cons, k1], ?_⟩
        rw [List.map_cons, k2, natOf_ok e1, Int.toNat_natCast]
      · cases h
    · cases h
theorem foldl_push : ∀ (ns : List Int) (s : ByteArray), ns.foldl (fun r n => r.push (UInt8.ofNat n.toNat)) s = ⟨s.data ++ (ns.map (fun n => UInt8.ofNat n.toNat)).toArray⟩
  | [], s => by simp
  | n :: r, s => by
    rw [List.foldl_cons, foldl_push r]
    congr 1
    show (s.data.push _) ++ _ = _
    simp
theorem yields_convS {s t : TypeId} {x : Operand} {b : Bn} {p d n e : Nat} {T' : TypeId} {st : Bool} {cs r : List CV} {bs : List UInt8} (ho : o.op = .convert s t x) (hs : stBS P s t = true) (hx : ops' T x = some (b, p, d, n, e)) (hn : Nat.blt 0 n = true) (hb : H.cells b = some (T', st, cs)) (hr : ldN cs p n = some r) (hq : bytesOf r = some bs) : Yields P B T H o (some (.s (.c (.k (.string ⟨bs.toArray⟩))))) := fun φ ρ w h sr => by
  obtain ⟨l, h1, h2, h3⟩ := ops_ok h hx
  have hn : 0 < n := Nat.blt_eq.mp hn
  rw [if_neg (by omega)] at h3
  obtain ⟨l', vs, k1, k2, k3, k4⟩ := sr.row hb hr
  rw [h1] at k1
  cases k1
  obtain ⟨ns, m1, m2⟩ := bytesOf_ok hq k2
  have hl := run_loadCells_list (P := P) w ⟨l.b, l.s + p, none⟩ vs (fun j v hv => by rw [addr_add]; exact k4 j v hv)
  rw [k3, m1] at hl
  unfold stBS at hs
  simp only [inf_eq, und_eq] at hs
  split at hs
  · rename_i el e1 e2
    split at hs
    · rename_i i e3 e4
      refine ⟨.string ⟨bs.toArray⟩, fun tv e => by cases e; rfl, ?_⟩
      have hc := run_convert_bytes_string (P := P) w s t el (some ⟨l.b, l.s + p, none⟩) n (l.c - d) e1 e3 e2
      rw [run_bytesToString w _ n (l.c - d) ns hl, foldl_push, m2] at hc
      have hc2 : (⟨ByteArray.empty.data ++ bs.toArray⟩ : ByteArray) = ⟨bs.toArray⟩ := by
        congr 1
        simp
      rw [hc2] at hc
      simp only [execOp, ho, h3, Sem.run_bind, hc, Result.andThen_ok]
      rfl
    · cases hs
  · cases hs
end
end Ev
end Go.Proofs.YtajhndakkaniaaaGreatDoor
/- An evaluator for closed runs: a look into a map. -/
namespace Go.Proofs.YtajhndakkaniaaaGreatDoor
open Go

namespace Ev
/-- a zero of one cell -/
noncomputable def zeroC (P : Program) (t : TypeId) : Option CV := match inf P t with
  | some i => match i.zero with
    | some v => valCV v
    | none => none
  | none => none
/-- the key of a map is a struct of numbers; its elements' zero is one cell -/
noncomputable def stLook (P : Program) (t : TypeId) : Option (List Nat × CV) := match und P t with
  | some (.map k e) => match und P k with
    | some (.struct fs) => match P.stoodInHeld k with
      | true => none
      | false => match offsOf P fs.toList, zeroC P e with
        | some l, some z => some (l, z)
        | _, _ => none
    | _ => none
  | _ => none
noncomputable def intsAt : List Nat → List CV → Bool
  | [], _ => true
  | q :: r, l => match l[q]? with
    | some (.k (.int _ _)) => intsAt r l
    | _ => false
section
variable {P : Program} {B : Nat} {T : Tm} {H : Hp} {o : Oper}
theorem checks_ok {em : Bool} {φ : Ren} {w : World} {l : List CV} {xs : List Value} (hx : cvsV φ l = some xs) (d : Nat) : ∀ {fs : List Field} {os : List Nat}, offsOf P fs = some os → intsAt os l = true →
    (forIn fs PUnit.unit fun (f : Field) (_ : PUnit) => (if f.name ≠ "_" then do Instr.checkKey em (d + 1) f.type (← part f.type xs.toArray f.offset); pure (ForInStep.yield PUnit.unit) else pure (ForInStep.yield PUnit.unit) : Sem (ForInStep PUnit))).run P w = .ok PUnit.unit w
  | [], os, _, _ => rfl
  | f :: fs, os, h, e => by
    simp only [offsOf, und_eq] at h
    split at h
    · rename_i kd l' e1 e2
      split at h
      · cases h
      · rename_i e3
        cases h
        simp only [intsAt] at e
        split at e
        · rename_i k a e4
          obtain ⟨u, m1, m2⟩ := cvsV_get hx _ _ e4
          cases m2
          have hag : ∀ w, (isAgg f.type).run P w = .ok false w := fun w => by simp [isAgg, run_underlying e1, go_sem]
          have p1 : (part f.type xs.toArray f.offset).run P w = .ok (.int k a) w := by
            simp only [part, Sem.run_bind, hag, Result.andThen_ok]
            simp [m1, go_sem]
          have p2 : (Instr.checkKey em (d + 1) f.type (.int k a)).run P w = .ok () w := by
            simp [Instr.checkKey, run_underlying e1, go_sem]
          have hn : f.name ≠ "_" := fun q => e3 (by rw [q]; rfl)
          rw [List.forIn_cons, if_pos hn, Sem.run_bind, Sem.run_bind, p1, Result.andThen_ok, Sem.run_bind, p2, Result.andThen_ok]
          exact checks_ok hx d e2 e
        · cases e
    · cases h
theorem zeroC_ok {φ : Ren} {t : TypeId} {z : CV} (h : zeroC P t = some z) : ∃ i v, P.info? t = some i ∧ i.zero = some v ∧ cvV φ z = some v := by
  unfold zeroC at h
  simp only [inf_eq] at h
  split at h
  · rename_i i h1
    split at h
    · rename_i v h2
      exact ⟨i, v, h1, h2, valCV_ok h⟩
    · cases h
  · cases h
noncomputable def notOne (l : List CV) : Bool := match l with
  | [_] => false
  | _ => true
theorem keyV_agg {φ : Ren} {k : List CV} {ks : List Value} (h : cvsV φ k = some ks) (hn : notOne k = true) : keyV ks = .agg ks.toArray := by
  have hl := cvsV_len h
  match ks, hl with
  | [], _ => rfl
  | [v], hl =>
    match k, hl, hn with
    | [_], _, hn => cases hn
    | [], hl, _ => simp at hl
    | _ :: _ :: _, hl, _ => simp at hl
  | _ :: _ :: _, _ => rfl
/-- the entry of a key -/
noncomputable def findC (os : List Nat) (k : List CV) : List (List CV × CV) → Nat → Option (Option (Nat × CV))
  | [], _ => some none
  | p :: r, i => match notOne p.1 with
    | false => none
    | true => match eqKey os k p.1 with
      | some true => some (some (i, p.2))
      | some false => findC os k r (i + 1)
      | none => none
theorem run_equalKey {φ : Ren} {w : World} {t : TypeId} {fs : Array Field} {os : List Nat} {l m : List CV} {xs ys : List Value} {r : Bool} (ht : P.underlying t = some (.struct fs)) (hs : P.stoodInHeld t = false) (ho : offsOf P fs.toList = some os) (hx : cvsV φ l = some xs) (hy : cvsV φ m = some ys) (he : eqKey os l m = some r) : (Op.equal t (.agg xs.toArray) (.agg ys.toArray)).run P w = .ok r w := by
  have e1 : P.fieldsOf t = fs := by
    unfold Program.fieldsOf
    rw [ht]
  have k1 := eqKey_ok (P := P) (w := w) hx hy 9998 ho he
  have k2 := run_equalIn_struct (P := P) w 9999 t xs.toArray ys.toArray (by rw [e1]; exact ht) hs
  rw [e1, k1] at k2
  exact k2
theorem findC_ok {φ : Ren} {w : World} {t : TypeId} {fs : Array Field} {os : List Nat} {k : List CV} {ks : List Value} {clock : Nat} (ht : P.underlying t = some (.struct fs)) (hs : P.stoodInHeld t = false) (ho : offsOf P fs.toList = some os) (hk : cvsV φ k = some ks) : ∀ {l : List (List CV × CV)} {es : List MapEntry} {i : Nat} {r : Option (Nat × CV)}, mapR φ clock l es → findC os k l i = some r → ∃ r', (Instr.findAsking t (.agg ks.toArray) es i).run P w = .ok r' w ∧ (r = none → r' = none) ∧ ∀ j c, r = some (j, c) → ∃ v, r' = some (j, v) ∧ cvV φ c = some v
  | [], [], i, r, _, h => by
    cases h
    exact ⟨none, rfl, fun _ => rfl, fun _ _ h => by cases h⟩
  | p :: l, e :: es, i, r, ⟨⟨qs, h1, h2⟩, h3, _, _, h6⟩, h => by
    unfold findC at h
    split at h
    · cases h
    · rename_i e0
      rw [keyV_agg h1 e0] at h2
      split at h
      · rename_i e1
        cases h
        have k1 := run_equalKey (P := P) (w := w) ht hs ho hk h1 e1
        refine ⟨some (i, e.val), ?_, fun h => (by cases h), fun j c h => by cases h; exact ⟨_, rfl, h3⟩⟩
        simp only [Instr.findAsking, h2, Sem.run_bind, k1, Result.andThen_ok]
        rfl
      · rename_i e1
        have k1 := run_equalKey (P := P) (w := w) ht hs ho hk h1 e1
        obtain ⟨r', k2, k3, k4⟩ := findC_ok ht hs ho hk (w := w) h6 h
        refine ⟨r', ?_, k3, k4⟩
        simp only [Instr.findAsking, h2, Sem.run_bind, k1, Result.andThen_ok]
        simpa using k2
      · cases h
  | [], _ :: _, _, _, h, _ => h.elim
  | _ :: _, [], _, _, h, _ => h.elim
theorem run_findKey {w : World} {t : TypeId} {fs : Array Field} {ks : Array Value} {es : List MapEntry} {r : Option (Nat × Value)} (ht : P.underlying t = some (.struct fs)) (h : (Instr.findAsking t (.agg ks) es).run P w = .ok r w) : (Instr.findKey t (.agg ks) es).run P w = .ok r w := by
  simp only [Instr.findKey, Sem.run_bind, run_underlying ht, Result.andThen_ok]
  cases es with
  | nil => exact h
  | cons e es =>
    have : Instr.findNow (.struct fs) (.agg ks) (e :: es) 0 = none := by
      simp only [Instr.findNow]
      cases e.key <;> rfl
    rw [this]
    exact h
theorem run_checkKey {em : Bool} {φ : Ren} {w : World} {t : TypeId} {fs : Array Field} {os : List Nat} {k : List CV} {ks : List Value} (ht : P.underlying t = some (.struct fs)) (ho : offsOf P fs.toList = some os) (hk : cvsV φ k = some ks) (hi : intsAt os k = true) : (Instr.checkKey em 10000 t (.agg ks.toArray)).run P w = .ok () w := by
  have hc := checks_ok (em := em) (P := P) (w := w) hk 9998 ho hi
  show (Instr.checkKey em (9999 + 1) t (.agg ks.toArray)).run P w = _
  unfold Instr.checkKey
  rw [Sem.run_bind, run_underlying ht, Result.andThen_ok]
  simp only
  rw [← Array.forIn_toList]
  first | exact hc | (rw [Sem.run_bind, hc]; rfl)
noncomputable def orZ (z : CV) : Option (Nat × CV) → CV
  | none => z
  | some p => p.2
theorem stLook_ok {φ : Ren} {t : TypeId} {os : List Nat} {z : CV} (hs : stLook P t = some (os, z)) : ∃ kt e fs i v, P.underlying t = some (.map kt e) ∧ P.underlying kt = some (.struct fs) ∧ P.stoodInHeld kt = false ∧ offsOf P fs.toList = some os ∧ P.info? e = some i ∧ i.zero = some v ∧ cvV φ z = some v := by
  unfold stLook at hs
  simp only [und_eq] at hs
  split at hs
  · rename_i kt e e1
    split at hs
    · rename_i fs e2
      split at hs
      · cases hs
      · rename_i e0
        split at hs
        · rename_i l' z' e3 e4
          injection hs with hs
          injection hs with hs1 hs2
          subst hs1
          subst hs2
          obtain ⟨i, v, k1, k2, k3⟩ := zeroC_ok (φ := φ) e4
          exact ⟨kt, e, fs, i, v, e1, e2, e0, e3, k1, k2, k3⟩
        · cases hs
    · cases hs
  · cases hs
theorem yields_look {t : TypeId} {x ix : Operand} {b : Bn} {os : List Nat} {z : CV} {k : List CV} {l : List (List CV × CV)} {r : Option (Nat × CV)} (ho : o.op = .lookup t x ix false) (hs : stLook P t = some (os, z)) (hx : opm T x = some b) (hb : H.mp b = some l) (hi : opa T ix = some k) (hk : intsAt os k = true) (hf : findC os k l 0 = some r) : Yields P B T H o (some (.s (.c (orZ z r)))) := fun φ ρ w h sr => by
  obtain ⟨q, es, clock, _, h1, h2, h5⟩ := opm_ok h sr hx hb
  obtain ⟨xs, h3, h4⟩ := opa_ok h hi
  obtain ⟨kt, e, fs, i, v, e1, e2, e0, e3, k1, k2, k3⟩ := stLook_ok (φ := φ) hs
  have hz : (zeroValue e).run P w = .ok v w := by simp [zeroValue, typeInfo, k1, k2, go_sem]
  have hck := run_checkKey (em := es.isEmpty) (P := P) (w := w) e2 e3 h4 hk
  obtain ⟨r', m1, m2, m3⟩ := findC_ok (P := P) (w := w) e2 e0 e3 h4 h5 hf
  have m4 := run_findKey e2 m1
  have hg : (getObj q.b).run P w = .ok (.map es clock) w := by simp [getObj, Sem.run, h2]
  cases r with
  | none =>
    cases m2 rfl
    refine ⟨v, fun tv q => by cases q; exact k3, ?_⟩
    have hl : (Instr.lookup t (.map (some q.b)) (.agg xs.toArray) false).run P w = .ok v w := by
      simp only [Instr.lookup, Sem.run_bind, run_underlying e1, Result.andThen_ok, hg, Sem.run_pure, hck, m4, hz]
      rfl
    simp only [execOp, ho, h1, h3, Sem.run_bind, hl, Result.andThen_ok]
    rfl
  | some p =>
    obtain ⟨j, c⟩ := p
    obtain ⟨u, rfl, m5⟩ := m3 j c rfl
    refine ⟨u, fun tv q => by cases q; exact m5, ?_⟩
    have hl : (Instr.lookup t (.map (some q.b)) (.agg xs.toArray) false).run P w = .ok u w := by
      simp only [Instr.lookup, Sem.run_bind, run_underlying e1, Result.andThen_ok, hg, Sem.run_pure, hck, m4]
      rfl
    simp only [execOp, ho, h1, h3, Sem.run_bind, hl, Result.andThen_ok]
    rfl
/-- a map whose keys are numbers -/
noncomputable def stLookI (P : Program) (t : TypeId) : Option CV := match und P t with
  | some (.map k e) => match und P k with
    | some (.int _) => zeroC P e
    | _ => none
  | _ => none
noncomputable def keyI : List CV → Option (IntKind × Int)
  | [.k (.int k a)] => some (k, a)
  | _ => none
theorem keyI_ok {φ : Ren} {p : List CV} {qs : List Value} {k : IntKind} {a : Int} (h : keyI p = some (k, a)) (hq : cvsV φ p = some qs) : keyV qs = .int k a := by
  unfold keyI at h
  split at h
  · cases h
    cases hq
    rfl
  · cases h
noncomputable def findI (kd : IntKind) (q : Int) : List (List CV × CV) → Nat → Option (Option (Nat × CV))
  | [], _ => some none
  | p :: r, i => match keyI p.1 with
    | some (k, a) => match decide (kd = k) with
      | true => match decide (q = a) with
        | true => some (some (i, p.2))
        | false => findI kd q r (i + 1)
      | false => none
    | none => none
theorem stLookI_ok {φ : Ren} {t : TypeId} {z : CV} (hs : stLookI P t = some z) : ∃ kt e kd i v, P.underlying t = some (.map kt e) ∧ P.underlying kt = some (.int kd) ∧ P.info? e = some i ∧ i.zero = some v ∧ cvV φ z = some v := by
  unfold stLookI at hs
  simp only [und_eq] at hs
  split at hs
  · rename_i kt e e1
    split at hs
    · rename_i kd e2
      obtain ⟨i, v, k1, k2, k3⟩ := zeroC_ok (φ := φ) hs
      exact ⟨kt, e, kd, i, v, e1, e2, k1, k2, k3⟩
    · cases hs
  · cases hs
theorem findI_ok {φ : Ren} {kd kq : IntKind} {q : Int} {clock : Nat} : ∀ {l : List (List CV × CV)} {es : List MapEntry} {i : Nat} {r : Option (Nat × CV)}, mapR φ clock l es → findI kd q l i = some r →
    ∃ r', Instr.findNow (.int kq) (.int kd q) es i = some r' ∧ (r = none → r' = none) ∧ ∀ j c, r = some (j, c) → ∃ u, r' = some (j, u) ∧ cvV φ c = some u
  | [], [], i, r, _, h => by
    cases h
    exact ⟨none, rfl, fun _ => rfl, fun _ _ h => by cases h⟩
  | p :: l, e :: es, i, r, ⟨⟨qs, h1, h2⟩, h3, _, _, h6⟩, h => by
    unfold findI at h
    split at h
    · rename_i k a e0
      rw [keyI_ok e0 h1] at h2
      split at h
      · rename_i e1
        have e1 := of_decide_eq_true e1
        subst e1
        split at h
        · rename_i e2
          have e2 := of_decide_eq_true e2
          subst e2
          cases h
          refine ⟨some (i, e.val), ?_, fun h => (by cases h), fun j c h => by cases h; exact ⟨_, rfl, h3⟩⟩
          simp [Instr.findNow, h2, Instr.sameNow]
        · rename_i e2
          have e2 := of_decide_eq_false e2
          obtain ⟨r', k2, k3, k4⟩ := findI_ok (kq := kq) h6 h
          refine ⟨r', ?_, k3, k4⟩
          have e3 : (q == a) = false := beq_eq_false_iff_ne.2 e2
          simp [Instr.findNow, h2, Instr.sameNow, e3, k2]
      · cases h
    · cases h
  | [], _ :: _, _, _, h, _ => h.elim
  | _ :: _, [], _, _, h, _ => h.elim
theorem run_findKeyI {w : World} {t : TypeId} {kd kq : IntKind} {q : Int} {es : List MapEntry} {r : Option (Nat × Value)} (ht : P.underlying t = some (.int kq)) (h : Instr.findNow (.int kq) (.int kd q) es 0 = some r) : (Instr.findKey t (.int kd q) es).run P w = .ok r w := by
  simp only [Instr.findKey, Sem.run_bind, run_underlying ht, Result.andThen_ok, h]
  rfl
theorem run_checkKeyI {em : Bool} {w : World} {t : TypeId} {kd kq : IntKind} {q : Int} (ht : P.underlying t = some (.int kq)) : (Instr.checkKey em 10000 t (.int kd q)).run P w = .ok () w := by
  have key : ∀ d, (Instr.checkKey em (d + 1) t (.int kd q)).run P w = .ok () w := fun d => by simp [Instr.checkKey, run_underlying ht, go_sem]
  exact key 9999
theorem yields_lookI {t : TypeId} {x ix : Operand} {b : Bn} {z : CV} {kd : IntKind} {k : Int} {l : List (List CV × CV)} {r : Option (Nat × CV)} (ho : o.op = .lookup t x ix false) (hs : stLookI P t = some z) (hx : opm T x = some b) (hi : opk T ix = some (.int kd k)) (hb : H.mp b = some l) (hf : findI kd k l 0 = some r) : Yields P B T H o (some (.s (.c (orZ z r)))) := fun φ ρ w h sr => by
  obtain ⟨q, es, clock, _, h1, h2, h5⟩ := opm_ok h sr hx hb
  have h3 := opk_ok h hi
  obtain ⟨kt, e, kq, i, v, e1, e2, k1, k2, k3⟩ := stLookI_ok (φ := φ) hs
  have hz : (zeroValue e).run P w = .ok v w := by simp [zeroValue, typeInfo, k1, k2, go_sem]
  have hck := run_checkKeyI (em := es.isEmpty) (P := P) (w := w) (kd := kd) (q := k) e2
  obtain ⟨r', m1, m2, m3⟩ := findI_ok (kq := kq) h5 hf
  have m4 := run_findKeyI (P := P) (w := w) e2 m1
  have hg : (getObj q.b).run P w = .ok (.map es clock) w := by simp [getObj, Sem.run, h2]
  cases r with
  | none =>
    cases m2 rfl
    refine ⟨v, fun tv q => by cases q; exact k3, ?_⟩
    have hl : (Instr.lookup t (.map (some q.b)) (.int kd k) false).run P w = .ok v w := by
      simp only [Instr.lookup, Sem.run_bind, run_underlying e1, Result.andThen_ok, hg, Sem.run_pure, hck, m4, hz]
      rfl
    simp only [execOp, ho, h1, h3, Sem.run_bind, hl, Result.andThen_ok]
    rfl
  | some p =>
    obtain ⟨j, c⟩ := p
    obtain ⟨u, rfl, m5⟩ := m3 j c rfl
    refine ⟨u, fun tv q => by cases q; exact m5, ?_⟩
    have hl : (Instr.lookup t (.map (some q.b)) (.int kd k) false).run P w = .ok u w := by
      simp only [Instr.lookup, Sem.run_bind, run_underlying e1, Result.andThen_ok, hg, Sem.run_pure, hck, m4]
      rfl
    simp only [execOp, ho, h1, h3, Sem.run_bind, hl, Result.andThen_ok]
    rfl
end
end Ev
end Go.Proofs.YtajhndakkaniaaaGreatDoor
/- An evaluator for closed runs: operations that act: stores, new variables. -/
namespace Go.Proofs.YtajhndakkaniaaaGreatDoor
open Go

namespace Ev
/-- what an operation that acts yields, and memory behind it -/
noncomputable def NextR (φ : Ren) (r : Option TV) (n : Next) : Prop := (∃ v, n = .value v ∧ ∀ tv, r = some tv → tvV φ tv = some v) ∨ (n = .skip ∧ r = none)
noncomputable def Does (P : Program) (B : Nat) (T : Tm) (H : Hp) (o : Oper) (r : Option TV) (H' : Hp) : Prop :=
  ∀ (φ : Ren) (ρ : Operand → Value) (w : World), EvR φ T ρ → SR P B φ H w → B ≤ w.heap.size → ∃ n φ' w', NextR φ' r n ∧ (execOp ρ o).run P w = .ok n w' ∧ Ext P B φ H w φ' H' w'
noncomputable def stSize (P : Program) (t : TypeId) : Option Nat := match inf P t with
  | some i => some i.size
  | none => none
theorem stSize_ok {P : Program} {t : TypeId} {n : Nat} (h : stSize P t = some n) : ∃ i, P.info? t = some i ∧ i.size = n := by
  unfold stSize at h
  simp only [inf_eq] at h
  split at h
  · rename_i i e
    cases h
    exact ⟨i, e, rfl⟩
  · cases h
section
variable {P : Program} {B : Nat} {T : Tm} {H : Hp} {o : Oper} {φ : Ren} {w : World}
theorem opsv_ok {ρ : Operand → Value} (h : EvR φ T ρ) {x : Operand} {v : SV} (hx : opsv T x = some v) : svV φ v = some (ρ x) := by
  unfold opsv at hx
  split at hx
  · rename_i e
    cases hx
    exact h _ _ e
  · cases hx
theorem all_sv {v : SV} (h : v.cells.all oneC = true) : ∀ k, v = .c (.k k) → k.oneCell' = true := fun k e => by
  subst e
  simp only [SV.cells, List.all_cons, List.all_nil, Bool.and_true] at h
  cases k <;> first | rfl | cases h
theorem stores_ok (h : SR P B φ H w) {x : Bn} {T' : TypeId} {st : Bool} {cs v cs' : List CV} {q : Nat} {l : Loc} {us : List Value} (hx : H.cells x = some (T', st, cs)) (hs : stN cs q v = some cs') (hl : φ x = some l) (hv : cvsV φ v = some us) (h1 : v.all oneC = true) :
    (storeCells ⟨l.b, l.s + q, none⟩ us).run P w = .ok () (w.setCells l.b (l.s + q) us) := by
  obtain ⟨l', c, fz, i, k1, k2, k3, k4, k5, k6, k7, k8⟩ := h.block hx
  rw [hl] at k1
  cases k1
  obtain ⟨m1, m2, m3⟩ := stN_get hs
  have hlen := cvsV_len hv
  have hb : ∀ j, j < us.length → l.s + q + j < c.size := fun j hj => by omega
  have := run_storeCells_cells (P := P) l.b (l.s + q) us 0 w (fun j hj => by
    rw [Nat.add_zero, cell_of k2, Array.getElem?_eq_getElem (hb j hj)]
    rfl) (fun j hj => by
    rw [Nat.add_zero]
    exact frozen_of k2 k6 (hb j hj)) (allC_one hv h1)
  rwa [Nat.add_zero] at this
theorem does_store {t : TypeId} {x v : Operand} {b : Bn} {q n : Nat} {u : SV} {T' : TypeId} {st : Bool} {cs cs' : List CV} (ho : o.op = .store t x v) (ht : stSize P t = some n) (hx : opp T x = some (b, q)) (hv : opsv T v = some u) (hc : H.cells b = some (T', st, cs)) (h1 : u.cells.all oneC = true) (hn : Nat.beq u.cells.length n = true) (hs : stN cs q u.cells = some cs') : Does P B T H o none (H.set b (.cells T' st cs')) := fun φ ρ w h sr hB => by
  obtain ⟨l, k1, k2⟩ := opp_ok h hx
  obtain ⟨i, e1, e2⟩ := stSize_ok ht
  have k3 := sv_cells (opsv_ok h hv) (all_sv h1)
  have hlen := cvsV_len k3
  have hn := Nat.eq_of_beq_eq_true hn
  refine ⟨.skip, φ, _, .inr ⟨rfl, rfl⟩, ?_, sr.store hc hs k1 k3⟩
  have hr := stores_ok sr hc hs k1 k3 h1
  have hsz : (ρ v).cells.size = i.size := by
    rw [e2, ← hn, ← hlen, Array.length_toList]
  have hst : (Instr.storeAt t (ρ x) (ρ v)).run P w = .ok () (w.setCells l.b (l.s + q) (ρ v).cells.toList) := by
    rw [k2]
    have hz : (sizeOf t).run P w = .ok i.size w := by simp [sizeOf, typeInfo, e1, go_sem]
    simp only [Instr.storeAt, Instr.sureAddr, storeVar, Sem.run_bind, Sem.run_pure, Result.andThen_ok, hz]
    rw [if_neg (by rw [hsz]; exact fun e => e rfl)]
    exact hr
  simp only [execOp, ho, Sem.run_bind, hst, Result.andThen_ok]
  rfl
theorem objR_fresh {e : TypeId} {i : TypeInfo} {l : Loc} {cs : List CV} {vs : List Value} {st : Bool} (hi : P.info? e = some i) (hs : l.s = 0) (hc : l.c * i.size ≤ vs.length) (hl : cs.length ≤ l.c * i.size ∧ l.c ≤ 9223372036854775807) (hv : ∀ (j : Nat) (q : CV), cs[j]? = some q → ∃ v, vs[j]? = some v ∧ cvV φ q = some v) : objR P φ l (.cells e st cs) (.cells vs.toArray e (0, 0)) := by
  refine ⟨vs.toArray, (0, 0), i, rfl, hi, ?_, hl, .inl rfl, fun j q hq => ?_⟩
  · rw [hs, Nat.zero_add]
    simpa using hc
  · obtain ⟨v, h1, h2⟩ := hv j q hq
    refine ⟨v, ?_, h2⟩
    rw [hs, Nat.zero_add]
    simpa using h1
/-- a new row: all cells known -/
theorem SR.row1 (sr : SR P B φ H w) {e : TypeId} {i : TypeInfo} {st : Bool} {cs : List CV} {vs : List Value} {c : Nat} (hi : P.info? e = some i) (hv : cvsV φ cs = some vs) (hc : vs.length = c * i.size) (hB : B ≤ w.heap.size) (hm : c ≤ 9223372036854775807 := by decide) :
    Ext P B φ H w (name φ H.nx ⟨w.heap.size, 0, c⟩) (H.new (.cells e st cs)) (w.alloc (.cells vs.toArray e)) :=
  sr.new rfl (objR_fresh hi rfl (Nat.le_of_eq hc.symm) ⟨Nat.le_of_eq ((cvsV_len hv).symm.trans hc), hm⟩ fun j q hq => by
    obtain ⟨v, h1, h2⟩ := cvsV_get hv j q hq
    exact ⟨v, h1, (sr.le_name _).cv h2⟩) hB
theorem run_newVar {w : World} {t : TypeId} {v : Value} : (newVar t v).run P w = .ok ⟨w.heap.size, 0, none⟩ (w.alloc (.cells v.cells t)) := by
  simp [newVar, newRow, go_sem]
noncomputable def ptrTV (H : Hp) : TV := .s (.c (.p H.nx 0))
theorem ptr_new {φ : Ren} {w : World} {c : Nat} : tvV (name φ H.nx ⟨w.heap.size, 0, c⟩) (ptrTV H) = some (.pointer (some ⟨w.heap.size, 0, none⟩)) := by
  simp only [ptrTV, tvV, svV, cvV, ptrV, name_same]
theorem does_alloc {e : TypeId} {z : List CV} {n : Nat} (ho : o.op = .alloc e) (hz : zeroCs P e = some z) (hs : stSize P e = some n) (hn : Nat.beq z.length n = true) : Does P B T H o (some (ptrTV H)) (H.new (.cells e false z)) := fun φ ρ w h sr hB => by
  obtain ⟨i, v, k1, k2, k3⟩ := zeroCs_ok (φ := φ) hz
  obtain ⟨i', e1, e2⟩ := stSize_ok hs
  rw [k1] at e1
  cases e1
  have hn := Nat.eq_of_beq_eq_true hn
  have hx := sr.row1 (st := false) (c := 1) k1 k3 (by rw [cvsV_len k3, hn, e2, Nat.one_mul]) hB
  refine ⟨.value (.pointer (some ⟨w.heap.size, 0, none⟩)), _, _, .inl ⟨_, rfl, fun tv q => by cases q; exact ptr_new⟩, ?_, hx⟩
  have hzv : (zeroValue e).run P w = .ok v w := by simp [zeroValue, typeInfo, k1, k2, go_sem]
  simp only [execOp, ho, Instr.alloc, Sem.run_bind, hzv, Result.andThen_ok, run_newVar]
  rfl
theorem does_box {e : TypeId} {x : Operand} {u : SV} {n : Nat} (ho : o.op = .box e x) (hv : opsv T x = some u) (h1 : u.cells.all oneC = true) (hs : stSize P e = some n) (hn : Nat.beq u.cells.length n = true) : Does P B T H o (some (ptrTV H)) (H.new (.cells e false u.cells)) := fun φ ρ w h sr hB => by
  have k3 := sv_cells (opsv_ok h hv) (all_sv h1)
  obtain ⟨i, e1, e2⟩ := stSize_ok hs
  have hn := Nat.eq_of_beq_eq_true hn
  have hx := sr.row1 (st := false) (c := 1) e1 k3 (by rw [cvsV_len k3, hn, e2, Nat.one_mul]) hB
  refine ⟨.value (.pointer (some ⟨w.heap.size, 0, none⟩)), _, _, .inl ⟨_, rfl, fun tv q => by cases q; exact ptr_new⟩, ?_, hx⟩
  simp only [execOp, ho, Instr.box, Sem.run_bind, Result.andThen_ok, run_newVar]
  rfl
theorem does_map {t : TypeId} (ho : o.op = .makeMap t none) : Does P B T H o (some (.s (.c (.m H.nx)))) (H.new (.map [])) := fun φ ρ w h sr hB => by
  have hx := sr.new (a := .map []) (o := .map #[] 0) (l := ⟨w.heap.size, 0, 0⟩) rfl ⟨#[], 0, rfl, trivial⟩ hB
  refine ⟨.value (.map (some w.heap.size)), _, _, .inl ⟨_, rfl, fun tv q => by cases q; simp only [tvV, svV, cvV, name_same]⟩, ?_, hx⟩
  simp [execOp, ho, Instr.makeMap, go_sem]
theorem run_setMap {w : World} {r : Nat} {es es' : Array MapEntry} {clock clock' : Nat} (h : w.heap[r]? = some (.map es clock)) : (setObj r (.map es' clock')).run P w = .ok () { w with heap := w.heap.setIfInBounds r (.map es' clock') } := by
  simp [setObj, Sem.run, h]
/-- a new entry -/
theorem does_mapset {t : TypeId} {x ix v : Operand} {b : Bn} {os : List Nat} {z c : CV} {k : List CV} {l : List (List CV × CV)} (ho : o.op = .mapUpdate t x ix v) (hs : stLook P t = some (os, z)) (hx : opm T x = some b) (hb : H.mp b = some l) (hi : opa T ix = some k) (hk : intsAt os k = true) (hf : findC os k l 0 = some none) (hv : opd T v = some (.s (.c c))) (hn : notOne k = true) : Does P B T H o none (H.set b (.map (l ++ [(k, c)]))) := fun φ ρ w h sr hB => by
  obtain ⟨q, es, clock, h0, h1, h2, h5⟩ := opm_ok h sr hx hb
  obtain ⟨xs, h3, h4⟩ := opa_ok h hi
  obtain ⟨kt, e, fs, i, zv, e1, e2, e0, e3, k1, k2, k3⟩ := stLook_ok (φ := φ) hs
  have hck := run_checkKey (em := false) (P := P) (w := w) e2 e3 h4 hk
  obtain ⟨r', m1, m2, m3⟩ := findC_ok (P := P) (w := w) e2 e0 e3 h4 h5 hf
  cases m2 rfl
  have m4 := run_findKey e2 m1
  have hg : (getObj q.b).run P w = .ok (.map es clock) w := by simp [getObj, Sem.run, h2]
  have hc := opc_ok h hv
  refine ⟨.skip, φ, _, .inr ⟨rfl, rfl⟩, ?_, sr.mapset (es' := es.push ⟨.agg xs.toArray, ρ v, clock⟩) (clock' := clock + 1) hb h0 (by
    rw [Array.toList_push]
    have hm := mapR.add h4 hc h5
    rw [keyV_agg h4 hn] at hm
    exact hm)⟩
  have hu : (Instr.mapUpdate t (.map (some q.b)) (.agg xs.toArray) (ρ v)).run P w = .ok () { w with heap := w.heap.setIfInBounds q.b (.map (es.push ⟨.agg xs.toArray, ρ v, clock⟩) (clock + 1)) } := by
    simp only [Instr.mapUpdate, Sem.run_bind, run_underlying e1, Result.andThen_ok, hg, hck, m4]
    exact run_setMap h2
  simp only [execOp, ho, h1, h3, Sem.run_bind, hu, Result.andThen_ok]
  rfl
noncomputable def lessE (l : List (List CV × CV)) : Option (Nat × CV) → List (List CV × CV)
  | none => l
  | some p => l.eraseIdx p.1
/-- an entry less -/
theorem does_delete {t t' : TypeId} {x ix : Operand} {b : Bn} {os : List Nat} {z : CV} {k : List CV} {l : List (List CV × CV)} {r : Option (Nat × CV)} (ho : o.op = .call { callee := .builtin .delete, args := #[x, ix], argTypes := #[t, t'] }) (hs : stLook P t = some (os, z)) (hx : opm T x = some b) (hb : H.mp b = some l) (hi : opa T ix = some k) (hk : intsAt os k = true) (hf : findC os k l 0 = some r) : Does P B T H o none (H.set b (.map (lessE l r))) := fun φ ρ w h sr hB => by
  obtain ⟨q, es, clock, h0, h1, h2, h5⟩ := opm_ok h sr hx hb
  obtain ⟨xs, h3, h4⟩ := opa_ok h hi
  obtain ⟨kt, e, fs, i, zv, e1, e2, e0, e3, k1, k2, k3⟩ := stLook_ok (φ := φ) hs
  have hck := run_checkKey (em := es.isEmpty) (P := P) (w := w) e2 e3 h4 hk
  obtain ⟨r', m1, m2, m3⟩ := findC_ok (P := P) (w := w) e2 e0 e3 h4 h5 hf
  have m4 := run_findKey e2 m1
  have hg : (getObj q.b).run P w = .ok (.map es clock) w := by simp [getObj, Sem.run, h2]
  cases r with
  | none =>
    cases m2 rfl
    refine ⟨.value (.tuple #[]), φ, _, .inl ⟨_, rfl, fun tv e => by cases e⟩, ?_, sr.mapset (es' := es) (clock' := clock) hb h0 h5⟩
    have hu : (Builtin.delete_ #[t, t'] o.type #[.map (some q.b), .agg xs.toArray]).run P w = .ok (.tuple #[]) { w with heap := w.heap.setIfInBounds q.b (.map es clock) } := by
      have e9 := run_setMap (P := P) (es' := es) (clock' := clock) h2
      simp only [Builtin.delete_, List.getElem?_toArray, List.getElem?_cons_zero, List.getElem?_cons_succ, Sem.run_bind, run_underlying e1, Result.andThen_ok, hg, hck, m4, e9]
      rfl
    rw [run_builtin ho]
    simp only [builtin, List.map_toArray, List.map_cons, List.map_nil, h1, h3, Sem.run_bind, hu, Result.andThen_ok]
    rfl
  | some p =>
    obtain ⟨j, c⟩ := p
    obtain ⟨u, rfl, m5⟩ := m3 j c rfl
    refine ⟨.value (.tuple #[]), φ, _, .inl ⟨_, rfl, fun tv e => by cases e⟩, ?_, sr.mapset (es' := es.eraseIdxIfInBounds j) (clock' := clock) hb h0 (by
      rw [Array.toList_eraseIdxIfInBounds]
      exact mapR.del j h5)⟩
    have hu : (Builtin.delete_ #[t, t'] o.type #[.map (some q.b), .agg xs.toArray]).run P w = .ok (.tuple #[]) { w with heap := w.heap.setIfInBounds q.b (.map (es.eraseIdxIfInBounds j) clock) } := by
      have e9 := run_setMap (P := P) (es' := es.eraseIdxIfInBounds j) (clock' := clock) h2
      simp only [Builtin.delete_, List.getElem?_toArray, List.getElem?_cons_zero, List.getElem?_cons_succ, Sem.run_bind, run_underlying e1, Result.andThen_ok, hg, hck, m4, e9]
      rfl
    rw [run_builtin ho]
    simp only [builtin, List.map_toArray, List.map_cons, List.map_nil, h1, h3, Sem.run_bind, hu, Result.andThen_ok]
    rfl
/-- a new entry, of a number -/
theorem does_mapsetI {t : TypeId} {x ix v : Operand} {b : Bn} {z c : CV} {kd : IntKind} {k : Int} {l : List (List CV × CV)} (ho : o.op = .mapUpdate t x ix v) (hs : stLookI P t = some z) (hx : opm T x = some b) (hi : opk T ix = some (.int kd k)) (hb : H.mp b = some l) (hv : opd T v = some (.s (.c c))) (hf : findI kd k l 0 = some none) : Does P B T H o none (H.set b (.map (l ++ [([.k (.int kd k)], c)]))) := fun φ ρ w h sr hB => by
  obtain ⟨q, es, clock, h0, h1, h2, h5⟩ := opm_ok h sr hx hb
  have h3 := opk_ok h hi
  obtain ⟨kt, e, kq, i, zv, e1, e2, k1, k2, k3⟩ := stLookI_ok (φ := φ) hs
  have hck := run_checkKeyI (em := false) (P := P) (w := w) (kd := kd) (q := k) e2
  obtain ⟨r', m1, m2, m3⟩ := findI_ok (kq := kq) h5 hf
  cases m2 rfl
  have m4 := run_findKeyI (P := P) (w := w) e2 m1
  have hg : (getObj q.b).run P w = .ok (.map es clock) w := by simp [getObj, Sem.run, h2]
  have hc := opc_ok h hv
  refine ⟨.skip, φ, _, .inr ⟨rfl, rfl⟩, ?_, sr.mapset (es' := es.push ⟨.int kd k, ρ v, clock⟩) (clock' := clock + 1) hb h0 (by
    rw [Array.toList_push]
    exact mapR.add (k := [.k (.int kd k)]) (ks := [.int kd k]) rfl hc h5)⟩
  have hu : (Instr.mapUpdate t (.map (some q.b)) (.int kd k) (ρ v)).run P w = .ok () { w with heap := w.heap.setIfInBounds q.b (.map (es.push ⟨.int kd k, ρ v, clock⟩) (clock + 1)) } := by
    simp only [Instr.mapUpdate, Sem.run_bind, run_underlying e1, Result.andThen_ok, hg, hck, m4]
    exact run_setMap h2
  simp only [execOp, ho, h1, h3, Sem.run_bind, hu, Result.andThen_ok]
  rfl
/-- an entry less, of a number -/
theorem does_deleteI {t t' : TypeId} {x ix : Operand} {b : Bn} {z : CV} {kd : IntKind} {k : Int} {l : List (List CV × CV)} {r : Option (Nat × CV)} (ho : o.op = .call { callee := .builtin .delete, args := #[x, ix], argTypes := #[t, t'] }) (hs : stLookI P t = some z) (hx : opm T x = some b) (hi : opk T ix = some (.int kd k)) (hb : H.mp b = some l) (hf : findI kd k l 0 = some r) : Does P B T H o none (H.set b (.map (lessE l r))) := fun φ ρ w h sr hB => by
  obtain ⟨q, es, clock, h0, h1, h2, h5⟩ := opm_ok h sr hx hb
  have h3 := opk_ok h hi
  obtain ⟨kt, e, kq, i, zv, e1, e2, k1, k2, k3⟩ := stLookI_ok (φ := φ) hs
  have hck := run_checkKeyI (em := es.isEmpty) (P := P) (w := w) (kd := kd) (q := k) e2
  obtain ⟨r', m1, m2, m3⟩ := findI_ok (kq := kq) h5 hf
  have m4 := run_findKeyI (P := P) (w := w) e2 m1
  have hg : (getObj q.b).run P w = .ok (.map es clock) w := by simp [getObj, Sem.run, h2]
  cases r with
  | none =>
    cases m2 rfl
    refine ⟨.value (.tuple #[]), φ, _, .inl ⟨_, rfl, fun tv e => by cases e⟩, ?_, sr.mapset (es' := es) (clock' := clock) hb h0 h5⟩
    have hu : (Builtin.delete_ #[t, t'] o.type #[.map (some q.b), .int kd k]).run P w = .ok (.tuple #[]) { w with heap := w.heap.setIfInBounds q.b (.map es clock) } := by
      have e9 := run_setMap (P := P) (es' := es) (clock' := clock) h2
      simp only [Builtin.delete_, List.getElem?_toArray, List.getElem?_cons_zero, List.getElem?_cons_succ, Sem.run_bind, run_underlying e1, Result.andThen_ok, hg, hck, m4, e9]
      rfl
    rw [run_builtin ho]
    simp only [builtin, List.map_toArray, List.map_cons, List.map_nil, h1, h3, Sem.run_bind, hu, Result.andThen_ok]
    rfl
  | some p =>
    obtain ⟨j, c⟩ := p
    obtain ⟨u, rfl, m5⟩ := m3 j c rfl
    refine ⟨.value (.tuple #[]), φ, _, .inl ⟨_, rfl, fun tv e => by cases e⟩, ?_, sr.mapset (es' := es.eraseIdxIfInBounds j) (clock' := clock) hb h0 (by
      rw [Array.toList_eraseIdxIfInBounds]
      exact mapR.del j h5)⟩
    have hu : (Builtin.delete_ #[t, t'] o.type #[.map (some q.b), .int kd k]).run P w = .ok (.tuple #[]) { w with heap := w.heap.setIfInBounds q.b (.map (es.eraseIdxIfInBounds j) clock) } := by
      have e9 := run_setMap (P := P) (es' := es.eraseIdxIfInBounds j) (clock' := clock) h2
      simp only [Builtin.delete_, List.getElem?_toArray, List.getElem?_cons_zero, List.getElem?_cons_succ, Sem.run_bind, run_underlying e1, Result.andThen_ok, hg, hck, m4, e9]
      rfl
    rw [run_builtin ho]
    simp only [builtin, List.map_toArray, List.map_cons, List.map_nil, h1, h3, Sem.run_bind, hu, Result.andThen_ok]
    rfl
end
end Ev
end Go.Proofs.YtajhndakkaniaaaGreatDoor
/- An evaluator for closed runs: appends. -/
namespace Go.Proofs.YtajhndakkaniaaaGreatDoor
open Go

namespace Ev
/-- of a slice: its elements' type, how many cells, how many bytes -/
noncomputable def stApp (P : Program) (t : TypeId) : Option (TypeId × Nat × Nat) := match und P t with
  | some (.slice e) => match inf P e with
    | some i => match i.zero with
      | some z => if Nat.beq z.cells.size i.size && Nat.blt 0 i.size then some (e, i.size, i.bytes) else none
      | none => none
    | none => none
  | _ => none
/-- may a row of so many be asked for? -/
noncomputable def fits (n bytes : Nat) : Bool := Nat.ble (n * bytes) 140737488355328 && Nat.ble n 9223372036854775807
section
variable {P : Program} {B : Nat} {T : Tm} {H : Hp} {o : Oper} {φ : Ren} {w : World}
theorem stApp_ok {t e : TypeId} {z b : Nat} (h : stApp P t = some (e, z, b)) : ∃ i v, P.underlying t = some (.slice e) ∧ P.info? e = some i ∧ i.zero = some v ∧ v.cells.size = z ∧ i.size = z ∧ 0 < z ∧ i.bytes = b := by
  unfold stApp at h
  simp only [inf_eq, und_eq] at h
  split at h
  · rename_i e' h1
    split at h
    · rename_i i h2
      split at h
      · rename_i v h3
        split at h
        · rename_i h4
          simp only [Bool.and_eq_true] at h4
          injection h with h
          injection h with h5 h
          injection h with h6 h7
          subst h5
          subst h6
          subst h7
          exact ⟨i, v, h1, h2, h3, Nat.eq_of_beq_eq_true h4.1, rfl, Nat.blt_eq.mp h4.2, rfl⟩
        · cases h
      · cases h
    · cases h
  · cases h
theorem fits_ok {n bytes : Nat} (h : fits n bytes = true) : n * bytes ≤ 140737488355328 ∧ (n : Int) ≤ 9223372036854775807 := by
  unfold fits at h
  simp only [Bool.and_eq_true] at h
  have h1 := Nat.le_of_ble_eq_true h.1
  have h2 := Nat.le_of_ble_eq_true h.2
  exact ⟨h1, by omega⟩
noncomputable def emptyS : CV → Bool
  | .k (.slice none 0 _) => true
  | .s _ _ _ 0 _ => true
  | _ => false
theorem emptyS_ok {x : Value} {c : CV} (h : emptyS c = true) (hx : cvV φ c = some x) : ∃ a q, x = .slice a 0 q := by
  unfold emptyS at h
  split at h
  · cases hx
    exact ⟨_, _, rfl⟩
  · simp only [cvV] at hx
    split at hx
    · split at hx
      · cases hx
        exact ⟨_, _, rfl⟩
      · cases hx
    · cases hx
  · cases h
noncomputable def someS : CV → Bool
  | .k (.slice none 0 _) => true
  | .s _ _ _ _ _ => true
  | _ => false
theorem someS_ok {x : Value} {c : CV} (h : someS c = true) (hx : cvV φ c = some x) : ∃ a n q, x = .slice a n q ∧ n ≤ q := by
  unfold someS at h
  split at h
  · cases hx
    exact ⟨_, _, _, rfl, Nat.zero_le _⟩
  · simp only [cvV] at hx
    split at hx
    · split at hx
      · cases hx
        exact ⟨_, _, _, rfl, by omega⟩
      · cases hx
    · cases hx
  · cases h
theorem run_append_none {w : World} {t ty e : TypeId} {i : TypeInfo} (ht : P.underlying t = some (.slice e)) (hi : P.info? e = some i) (a b : Option Addr) (n c q : Nat) (h : n ≤ c) :
    (Builtin.append_ #[t, t] ty #[.slice a n c, .slice b 0 q]).run P w = .ok (.slice a n c) w := by

  cases a <;> cases b <;> simp [Builtin.append_, run_underlying ht, Builtin.lenOf, Builtin.firstCells, sizeOf, typeInfo, hi, h, storeCells, go_sem]
theorem run_app {ρ : Operand → Value} {t : TypeId} {s x : Operand} (ho : o.op = .call { callee := .builtin .append, args := #[s, x], argTypes := #[t, t] }) {v : Value} {w w' : World} (h : (Builtin.append_ #[t, t] o.type #[ρ s, ρ x]).run P w = .ok v w') : (execOp ρ o).run P w = .ok (.value v) w' := by
  rw [run_builtin ho]
  have : (#[s, x].map ρ) = #[ρ s, ρ x] := by simp
  simp only [builtin, this, Sem.run_bind, h, Result.andThen_ok]
  rfl
/-- nothing is appended -/
theorem does_app0 {t e : TypeId} {s x : Operand} {z by' : Nat} {c d : CV} (ho : o.op = .call { callee := .builtin .append, args := #[s, x], argTypes := #[t, t] }) (ht : stApp P t = some (e, z, by')) (hs : opd T s = some (.s (.c c))) (hx : opd T x = some (.s (.c d))) (h1 : someS c = true) (h2 : emptyS d = true) : Does P B T H o (some (.s (.c c))) H := fun φ ρ w h sr hB => by
  obtain ⟨i, v, k1, k2, _⟩ := stApp_ok ht
  have e1 : cvV φ c = some (ρ s) := h _ _ hs
  have e2 : cvV φ d = some (ρ x) := h _ _ hx
  obtain ⟨a, n, q, m1, m2⟩ := someS_ok h1 e1
  obtain ⟨b, q', m3⟩ := emptyS_ok h2 e2
  refine ⟨.value (ρ s), φ, w, .inl ⟨_, rfl, fun tv q => by cases q; exact e1⟩, run_app ho ?_, Ext.refl sr⟩
  rw [m1, m3]
  exact run_append_none k1 k2 _ _ _ _ _ m2
/-- cells of a row that are all there -/
theorem row_at (sr : SR P B φ H w) {y : Bn} {T' : TypeId} {st : Bool} {cs xs : List CV} {p k : Nat} (hy : H.cells y = some (T', st, cs)) (hr : ldN cs p k = some xs) {l : Loc} (hl : φ y = some l) : ∃ vs, cvsV φ xs = some vs ∧ vs.length = k ∧ ∀ (j : Nat) (v : Value), vs[j]? = some v → w.cell? ((⟨l.b, l.s + p, none⟩ : Addr).add j) = some v := by
  obtain ⟨l', vs, k1, k2, k3, k4⟩ := sr.row hy hr
  rw [hl] at k1
  cases k1
  exact ⟨vs, k2, k3, fun j v hv => by rw [addr_add]; exact k4 j v hv⟩
theorem src_ok {ρ : Operand → Value} (h : EvR φ T ρ) (sr : SR P B φ H w) {x : Operand} {y : Bn} {p d n e z : Nat} {T' : TypeId} {st : Bool} {cs xs : List CV} (hx : ops' T x = some (y, p, d, n, e)) (hn : Nat.blt 0 n = true) (hy : H.cells y = some (T', st, cs)) (hr : ldN cs p (n * z) = some xs) :
    ∃ (a : Addr) (q : Nat) (vs : List Value), ρ x = .slice (some a) n q ∧ cvsV φ xs = some vs ∧ vs.length = n * z ∧ ∀ (j : Nat) (v : Value), vs[j]? = some v → w.cell? (a.add j) = some v := by
  obtain ⟨l, h1, h2, h3⟩ := ops_ok h hx
  have hn : 0 < n := Nat.blt_eq.mp hn
  rw [if_neg (by omega)] at h3
  obtain ⟨vs, k1, k2, k3⟩ := row_at sr hy hr h1
  exact ⟨_, _, vs, h3, k1, k2, k3⟩
noncomputable def rowTV (H : Hp) (n : Nat) : TV := .s (.c (.s H.nx 0 0 n 0))
theorem row_new {l : Loc} {n : Nat} (h : n ≤ l.c) : tvV (name φ H.nx l) (rowTV H n) = some (.slice (some ⟨l.b, l.s, none⟩) n l.c) := by
  simp only [rowTV, tvV, svV, cvV, name_same]
  rw [if_pos (by omega)]
  simp
theorem grown_new (sr : SR P B φ H w) {e : TypeId} {i : TypeInfo} {v : Value} {st : Bool} {cs : List CV} {vs : List Value} {n c : Nat} (hi : P.info? e = some i) (hz : v.cells.size = i.size) (hv : cvsV φ cs = some vs) (hn : vs.length = n * i.size) (hc : n ≤ c) (hB : B ≤ w.heap.size) (hm : c ≤ 9223372036854775807) :
    Ext P B φ H w (name φ H.nx ⟨w.heap.size, 0, c⟩) (H.new (.cells e st cs)) (w.alloc (.cells (vs.toArray ++ Builtin.zeroCells v.cells (c - n)) e)) := by
  have hlen : (vs ++ (Builtin.zeroCells v.cells (c - n)).toList).length = c * i.size := by
    have : (Builtin.zeroCells v.cells (c - n)).toList.length = (c - n) * v.cells.size := by simp [Builtin.zeroCells]
    rw [List.length_append, this, hn, hz, ← Nat.add_mul, Nat.add_sub_cancel' hc]
  have e1 : (vs.toArray ++ Builtin.zeroCells v.cells (c - n)) = (vs ++ (Builtin.zeroCells v.cells (c - n)).toList).toArray := by
    apply Array.ext'
    simp
  rw [e1]
  refine sr.new rfl (objR_fresh hi rfl (Nat.le_of_eq hlen.symm) ?_ fun j q hq => ?_) hB
  · have h1 := cvsV_len hv
    have h2 : n * i.size ≤ c * i.size := Nat.mul_le_mul_right _ hc
    exact ⟨by show cs.length ≤ c * i.size; omega, hm⟩
  · obtain ⟨u, h1, h2⟩ := cvsV_get hv j q hq
    refine ⟨u, ?_, (sr.le_name _).cv h2⟩
    rw [List.getElem?_append_left ((List.getElem?_eq_some_iff.1 h1).1)]
    exact h1
/-- the first row -/
theorem does_appNil {t e : TypeId} {s x : Operand} {z by' : Nat} {y : Bn} {p d n q : Nat} {T' : TypeId} {st : Bool} {cs xs : List CV} (ho : o.op = .call { callee := .builtin .append, args := #[s, x], argTypes := #[t, t] }) (ht : stApp P t = some (e, z, by')) (hs : opk T s = some (.slice none 0 0)) (hx : ops' T x = some (y, p, d, n, q)) (hn : Nat.blt 0 n = true) (hy : H.cells y = some (T', st, cs)) (hr : ldN cs p (n * z) = some xs) (hf : fits n by' = true) :
    Does P B T H o (some (rowTV H n)) (H.new (.cells e false xs)) := fun φ ρ w h sr hB => by
  obtain ⟨i, v, k1, k2, k3, k4, k5, k6, k7⟩ := stApp_ok ht
  obtain ⟨a, c, vs, m1, m2, m3, m4⟩ := src_ok h sr hx hn hy hr
  obtain ⟨f1, f2⟩ := fits_ok hf
  subst k7
  have hn' : 0 < n := Nat.blt_eq.mp hn
  have hrun := run_append_nil (P := P) (w := w) t o.type e i v k1 k2 k3 a n c vs (by rw [m3, k5]) m4 hn' f2 (by omega)
  have hcap := grownCap_ge w n 0 e
  have hB' : B ≤ w.drew.heap.size := hB
  have hx := (Ext.drew sr).trans (grown_new (w := w.drew) (st := false) sr.drew k2 (by rw [k4, k5]) m2 (by rw [m3, k5]) hcap hB' (grownCap_le_maxLen _ _ _ _ (by unfold maxLen; omega)))
  refine ⟨.value (.slice (some ⟨w.heap.size, 0, none⟩) n (grownCap w n 0 e)), _, _, .inl ⟨_, rfl, fun tv q => by cases q; exact row_new (l := ⟨w.heap.size, 0, grownCap w n 0 e⟩) hcap⟩, run_app ho ?_, hx⟩
  rw [opk_ok h hs, m1]
  exact hrun
/-- there is room, and it is known -/
theorem does_appIn {t e : TypeId} {s x : Operand} {z by' : Nat} {y b : Bn} {p d n q p' d' m q' : Nat} {T' T2 : TypeId} {st st2 : Bool} {cs xs cs2 cs' : List CV} (ho : o.op = .call { callee := .builtin .append, args := #[s, x], argTypes := #[t, t] }) (ht : stApp P t = some (e, z, by')) (hs : ops' T s = some (b, p', d', m, q')) (hx : ops' T x = some (y, p, d, n, q)) (hn : Nat.blt 0 n = true) (hy : H.cells y = some (T', st, cs)) (hr : ldN cs p (n * z) = some xs)
    (hb : H.cells b = some (T2, st2, cs2)) (hT : Nat.beq T2 e = true) (ho' : Nat.beq p' (d' * z) = true) (h1 : xs.all oneC = true) (hst : stN cs2 (p' + m * z) xs = some cs') :
    Does P B T H o (some (.s (.c (.s b p' d' (m + n) q')))) (H.set b (.cells T2 st2 cs')) := fun φ ρ w h sr hB => by
  obtain ⟨i, v, k1, k2, k3, k4, k5, k6, k7⟩ := stApp_ok ht
  obtain ⟨a, c, vs, m1, m2, m3, m4⟩ := src_ok h sr hx hn hy hr
  obtain ⟨l, n1, n2, n3⟩ := ops_ok h hs
  have hT := (Nat.eq_of_beq_eq_true hT).symm
  have ho' := Nat.eq_of_beq_eq_true ho'
  subst hT
  subst ho'
  have hn' : 0 < n := Nat.blt_eq.mp hn
  obtain ⟨l', arr, fz, i', e1, e2, e3, e4, e5, e6, e7, e8⟩ := sr.block hb
  rw [n1] at e1
  cases e1
  rw [k2] at e3
  cases e3
  obtain ⟨s1, s2, s3⟩ := stN_get hst
  have hxl := cvsV_len m2
  have hroom : d' + m + n ≤ l.c := by
    have : (d' + m + n) * z ≤ l.c * z := by
      rw [Nat.add_mul, Nat.add_mul]
      rw [k5] at e5
      omega
    exact Nat.le_of_mul_le_mul_right this k6
  rw [if_neg (by omega)] at n3
  have hsz : l.s + (d' * z + m * z) + vs.length ≤ arr.size := by
    rw [k5] at e4 e5
    omega
  have hrun := run_append_room_cells (P := P) (w := w) t o.type e i k1 k2 l.b (l.s + d' * z) m (l.c - d') a n c vs (by rw [m3, k5]) m4 (allC_one m2 h1) (by omega)
    (fun j hj => by
      rw [cell_of e2, k5, Array.getElem?_eq_getElem (by omega)]
      rfl) (fun j hj => frozen_of e2 e6 (by rw [k5]; omega))
  rw [k5, Nat.add_assoc] at hrun
  refine ⟨.value (.slice (some ⟨l.b, l.s + d' * z, none⟩) (m + n) (l.c - d')), φ, _, .inl ⟨_, rfl, fun tv q => ?_⟩, run_app ho ?_, sr.store hb hst n1 m2⟩
  · cases q
    simp only [tvV, svV, cvV, n1]
    rw [if_pos (by omega), if_neg (by omega)]
  · rw [n3, m1]
    exact hrun
/-- there may be room, or not: the row has another name behind it -/
theorem does_appMv {t e : TypeId} {s x : Operand} {z by' : Nat} {y b : Bn} {p d n q p' d' m q' : Nat} {T' T2 : TypeId} {st st2 : Bool} {cs xs cs2 old : List CV} (ho : o.op = .call { callee := .builtin .append, args := #[s, x], argTypes := #[t, t] }) (ht : stApp P t = some (e, z, by')) (hs : ops' T s = some (b, p', d', m, q')) (hx : ops' T x = some (y, p, d, n, q)) (hn : Nat.blt 0 n = true) (hy : H.cells y = some (T', st, cs)) (hr : ldN cs p (n * z) = some xs)
    (hb : H.cells b = some (T2, st2, cs2)) (hT : Nat.beq T2 e = true) (ho' : Nat.beq p' (d' * z) = true) (h1 : xs.all oneC = true) (hld : ldN cs2 p' (m * z) = some old) (hf : fits (m + n) by' = true) :
    Does P B T H o (some (rowTV H (m + n))) ((H.kill b).new (.cells T2 st2 (old ++ xs))) := fun φ ρ w h sr hB => by
  obtain ⟨i, v, k1, k2, k3, k4, k5, k6, k7⟩ := stApp_ok ht
  obtain ⟨a, c, vs, m1, m2, m3, m4⟩ := src_ok h sr hx hn hy hr
  obtain ⟨l, n1, n2, n3⟩ := ops_ok h hs
  have hT := (Nat.eq_of_beq_eq_true hT).symm
  have ho' := Nat.eq_of_beq_eq_true ho'
  subst hT
  subst ho'
  have hn' : 0 < n := Nat.blt_eq.mp hn
  obtain ⟨l', arr, fz, i', e1, e2, e3, e4, e5, e6, e7, e8⟩ := sr.block hb
  rw [n1] at e1
  cases e1
  rw [k2] at e3
  cases e3
  obtain ⟨us, r1, r2, r3⟩ := row_at sr hb hld n1
  have hxl := cvsV_len m2
  have hul := cvsV_len r1
  rw [k5] at e4 e5
  by_cases hroom : m + n ≤ l.c - d'
  · rw [if_neg (by omega)] at n3
    have hcz : (m + n) * z ≤ (l.c - d') * z := Nat.mul_le_mul_right _ hroom
    have hcz2 : d' * z + (l.c - d') * z = l.c * z := by
      rw [← Nat.add_mul]
      congr 1
      omega
    rw [Nat.add_mul] at hcz
    have hrun := run_append_room_cells (P := P) (w := w) t o.type e i k1 k2 l.b (l.s + d' * z) m (l.c - d') a n c vs (by rw [m3, k5]) m4 (allC_one m2 h1) hroom
      (fun j hj => by
        rw [cell_of e2, k5, Array.getElem?_eq_getElem (by omega)]
        rfl) (fun j hj => frozen_of e2 e6 (by rw [k5]; omega))
    rw [k5] at hrun
    obtain ⟨c', g1, g2, g3⟩ := setCells_heap l.b vs (l.s + d' * z + m * z) w arr e fz e2 (by omega)
    have hx := sr.move (l' := ⟨l.b, l.s + d' * z, l.c - d'⟩) (cs' := old ++ xs) hb n1 rfl (fun b' hb' => setCells_other _ _ _ _ _ hb') (setCells_size _ _ _ _) (setCells_rest _ _ _ _) g1 k2
      (by rw [k5, g2]; show l.s + d' * z + (l.c - d') * z ≤ arr.size; omega) (by rw [k5, List.length_append]; exact ⟨by show _ ≤ (l.c - d') * z; omega, by show l.c - d' ≤ _; omega⟩) (by rw [g2]; exact e6) fun j cv hj => by
        show ∃ v, c'[l.s + d' * z + j]? = some v ∧ _
        rw [g3]
        by_cases hjo : j < old.length
        · rw [List.getElem?_append_left hjo] at hj
          rw [if_neg (by omega)]
          obtain ⟨u, t1, t2⟩ := cvsV_get r1 j cv hj
          have t3 := r3 j u t1
          rw [addr_add, cell_of e2] at t3
          exact ⟨u, t3, t2⟩
        · rw [List.getElem?_append_right (by omega)] at hj
          obtain ⟨u, t1, t2⟩ := cvsV_get m2 _ cv hj
          have t3 := (List.getElem?_eq_some_iff.1 t1).1
          rw [if_pos (by omega)]
          refine ⟨u, ?_, t2⟩
          rw [← t1]
          congr 1
          omega
    refine ⟨.value (.slice (some ⟨l.b, l.s + d' * z, none⟩) (m + n) (l.c - d')), _, _, .inl ⟨_, rfl, fun tv q => by cases q; exact row_new (l := ⟨l.b, l.s + d' * z, l.c - d'⟩) hroom⟩, run_app ho ?_, hx⟩
    rw [n3, m1]
    exact hrun
  · obtain ⟨f1, f2⟩ := fits_ok hf
    subst k7
    have holds : ∀ j u, us[j]? = some u → w.cell? (((⟨l.b, l.s + (if l.c ≤ d' then q' else d' * z), none⟩ : Addr)).add j) = some u := fun j u hu => by
      by_cases hd : l.c ≤ d'
      · have hm : m = 0 := by omega
        subst hm
        have := (List.getElem?_eq_some_iff.1 hu).1
        omega
      · rw [if_neg hd]
        exact r3 j u hu
    have hrun := run_append_grow (P := P) (w := w) t o.type e i v k1 k2 k3 (⟨l.b, l.s + (if l.c ≤ d' then q' else d' * z), none⟩ : Addr) m (l.c - d') us (by rw [r2, k5]) holds a n c vs (by rw [m3, k5]) m4 (by omega) f2 (growslice_fits (by omega) f1)
    have hcap := grownCap_ge w (m + n) (l.c - d') e
    have hB' : B ≤ w.drew.heap.size := hB
    have e9 : us.toArray ++ vs.toArray = (us ++ vs).toArray := by
      apply Array.ext'
      simp
    rw [e9] at hrun
    have sk := sr.drew.kill b
    have hx := (Ext.drew sr).trans (sk.trans (grown_new (w := w.drew) (st := st2) sk.sr k2 (by rw [k4, k5]) (cvsV_app r1 m2) (by rw [List.length_append, r2, m3, k5, Nat.add_mul]) hcap hB' (grownCap_le_maxLen _ _ _ _ (by unfold maxLen; omega))))
    refine ⟨.value (.slice (some ⟨w.heap.size, 0, none⟩) (m + n) (grownCap w (m + n) (l.c - d') e)), _, _, .inl ⟨_, rfl, fun tv q => by cases q; exact row_new (H := H) (l := ⟨w.heap.size, 0, grownCap w (m + n) (l.c - d') e⟩) hcap⟩, run_app ho ?_, hx⟩
    rw [n3, m1]
    exact hrun
end
end Ev
end Go.Proofs.YtajhndakkaniaaaGreatDoor
/- An evaluator for closed runs: rows that are made, cleared, copied, marked. -/
namespace Go.Proofs.YtajhndakkaniaaaGreatDoor
open Go

namespace Ev
noncomputable def repC {α : Type} (z : List α) : Nat → List α
  | 0 => []
  | n + 1 => z ++ repC z n
/-- places of the elements of a row -/
noncomputable def plN (z : Nat) : Nat → Nat → List (Nat × Nat)
  | _, 0 => []
  | o, n + 1 => (o, z) :: plN z (o + z) n
theorem plN_get (z : Nat) : ∀ (n o i : Nat) (q : Nat × Nat), (plN z o n)[i]? = some q → q = (o + i * z, z)
  | 0, _, i, q, h => by cases i <;> cases h
  | n + 1, o, 0, q, h => by
    cases h
    rw [Nat.zero_mul, Nat.add_zero]
  | n + 1, o, i + 1, q, h => by
    rw [plN_get z n (o + z) i q h, Nat.succ_mul]
    congr 1
    omega
theorem repC_len {α : Type} (z : List α) : ∀ n, (repC z n).length = n * z.length
  | 0 => by rw [Nat.zero_mul]; rfl
  | n + 1 => by rw [repC, List.length_append, repC_len z n, Nat.succ_mul, Nat.add_comm]
theorem repC_get {α : Type} (z : List α) : ∀ (n j : Nat), j < n * z.length → (repC z n)[j]? = z[j % z.length]?
  | 0, j, h => by omega
  | n + 1, j, h => by
    rw [repC]
    by_cases hj : j < z.length
    · rw [List.getElem?_append_left hj, Nat.mod_eq_of_lt hj]
    · rw [List.getElem?_append_right (by omega), repC_get z n _ (by rw [Nat.succ_mul] at h; omega), ← Nat.mod_eq_sub_mod (by omega)]
theorem rep_cells (z : Array Value) (n : Nat) : (Builtin.zeroCells z n).toList = repC z.toList n := by
  apply List.ext_getElem?
  intro j
  by_cases hj : j < n * z.size
  · rw [repC_get _ _ _ (by simpa using hj)]
    have hz : 0 < z.size := by
      rcases Nat.eq_zero_or_pos z.size with h | h
      · rw [h] at hj; omega
      · exact h
    have hm : j % z.size < z.size := Nat.mod_lt _ hz
    simp [Builtin.zeroCells, hj, hm]
  · rw [List.getElem?_eq_none (by simp [Builtin.zeroCells]; omega), List.getElem?_eq_none (by rw [repC_len]; simpa using hj)]
section
variable {P : Program} {B : Nat} {T : Tm} {H : Hp} {o : Oper} {φ : Ren} {w : World}
theorem repC_ok {z : List CV} {vs : List Value} (h : cvsV φ z = some vs) : ∀ n, cvsV φ (repC z n) = some (repC vs n)
  | 0 => rfl
  | n + 1 => cvsV_app h (repC_ok h n)
theorem made_zero {z : Array Value} {n s : Nat} (h : z.size = s) : madeCells z (n * s) = Builtin.zeroCells z n := by
  subst h
  rfl
theorem rep_one {z : List CV} (h : z.all oneC = true) : ∀ n, (repC z n).all oneC = true
  | 0 => rfl
  | n + 1 => by rw [repC, List.all_append, h, rep_one h n]; rfl
theorem does_make {t e : TypeId} {l c : Operand} {z by' n m : Nat} {i j : Int} {zc : List CV} (ho : o.op = .makeSlice t l c) (ht : stApp P t = some (e, z, by')) (hz : zeroCs P e = some zc) (hl : opi T l = some i) (hc : opi T c = some j) (hi : natOf i = some n) (hj : natOf j = some m) (hnm : Nat.ble n m = true) (hf : fits m by' = true) :
    Does P B T H o (some (rowTV H n)) (H.new (.cells e false (repC zc m))) := fun φ ρ w h sr hB => by
  obtain ⟨i', v, k1, k2, k3, k4, k5, k6, k7⟩ := stApp_ok ht
  obtain ⟨i2, v2, r1, r2, r3⟩ := zeroCs_ok (φ := φ) hz
  rw [k2] at r1
  cases r1
  rw [k3] at r2
  cases r2
  obtain ⟨kl, q1⟩ := opi_ok h hl
  obtain ⟨kc, q2⟩ := opi_ok h hc
  have hi := natOf_ok hi
  have hj := natOf_ok hj
  subst hi
  subst hj
  have hnm := Nat.le_of_ble_eq_true hnm
  obtain ⟨f1, f2⟩ := fits_ok hf
  subst k7
  have f3 : (i'.bytes : Int) * (m : Int) ≤ 281474976710656 := by
    have : i'.bytes * m ≤ 140737488355328 := by rw [Nat.mul_comm]; exact f1
    have h2 : ((i'.bytes * m : Nat) : Int) ≤ 140737488355328 := by omega
    rw [Int.natCast_mul] at h2
    omega
  have hrun := run_make (P := P) (w := w) t e i' v k1 k2 k3 kl kc (n : Int) (m : Int) (by omega) (by omega) f3 f2
  rw [Int.toNat_natCast, Int.toNat_natCast, made_zero (by rw [k4, k5])] at hrun
  have hvs := repC_ok r3 m
  rw [← rep_cells] at hvs
  have hlen : (Builtin.zeroCells v.cells m).toList.length = m * i'.size := by
    rw [rep_cells, repC_len, Array.length_toList, k4, k5]
  have hx := sr.row1 (st := false) (c := m) k2 hvs hlen hB (by omega)
  refine ⟨.value (.slice (some ⟨w.heap.size, 0, none⟩) n m), _, _, .inl ⟨_, rfl, fun tv q => by cases q; exact row_new (l := ⟨w.heap.size, 0, m⟩) hnm⟩, ?_, hx⟩
  simp only [execOp, ho, q1, q2, Sem.run_bind, hrun, Result.andThen_ok]
  rfl
theorem does_buildS {t e : TypeId} {len z by' : Nat} {parts : Array (Nat × Operand)} {zc r : List CV} (ho : o.op = .buildSlice t len parts) (ht : stApp P t = some (e, z, by')) (hz : zeroCs P e = some zc) (hle : Nat.ble (len * z) 16777216 = true) (hp : partsOne T parts.toList = true) (hf : fillA (plN z 0 len) T (repC zc len) parts.toList = some r) :
    Does P B T H o (some (rowTV H len)) (H.new (.cells e false r)) := fun φ ρ w h sr hB => by
  obtain ⟨i', v, k1, k2, k3, k4, k5, k6, k7⟩ := stApp_ok ht
  obtain ⟨i2, v2, r1, r2, r3⟩ := zeroCs_ok (φ := φ) hz
  rw [k2] at r1
  cases r1
  rw [k3] at r2
  cases r2
  have hle := Nat.le_of_ble_eq_true hle
  have hvs := repC_ok r3 len
  rw [← rep_cells] at hvs
  obtain ⟨c', m1, m2, m3⟩ := fillA_ok h (plN z 0 len) (fun i => some (i * z, z)) (fun i q hq => by rw [plN_get z len 0 i q hq, Nat.zero_add]) parts.toList (repC zc len) r _ hf hvs (partsOne_ok hp)
  have hlen : c'.toList.length = len * i'.size := by
    rw [Array.length_toList, m3, ← Array.length_toList, rep_cells, repC_len, Array.length_toList, k4, k5]
  have hx := sr.row1 (st := false) (c := len) k2 m2 hlen hB (by have := Nat.le_mul_of_pos_right len k6; omega)
  have e4 : (parts.map fun (i, x) => (i, ρ x)).toList = parts.toList.map fun (i, x) => (i, ρ x) := by rw [Array.toList_map]
  have hsz : (sizeOf e).run P w = .ok z w := by simp [sizeOf, typeInfo, k2, k5, go_sem]
  have hzv : (zeroValue e).run P w = .ok v w := by simp [zeroValue, typeInfo, k2, k3, go_sem]
  have hb : (Instr.buildSlice t len (parts.map fun (i, x) => (i, ρ x))).run P w = .ok (.slice (some ⟨w.heap.size, 0, none⟩) len len) (w.alloc (.cells c' e)) := by
    have hcells : (if len * z = 0 then (#[] : Array Value) else v.cells) = v.cells ∨ len = 0 := by
      by_cases h0 : len * z = 0
      · exact .inr (by rcases Nat.mul_eq_zero.1 h0 with h | h; exact h; omega)
      · exact .inl (if_neg h0)
    unfold Instr.buildSlice
    rw [Sem.run_bind, run_underlying k1, Result.andThen_ok]
    simp only
    rw [Sem.run_bind, hsz, Result.andThen_ok, if_neg (by omega)]
    rcases Nat.eq_zero_or_pos len with h0 | h0
    · subst h0
      simp only [Nat.zero_mul, if_true]
      rw [Sem.run_bind, Sem.run_pure, Result.andThen_ok]
      have e5 : (Array.map (fun x => (#[] : Array Value)[x % (#[] : Array Value).size]!) (Array.range 0)) = Builtin.zeroCells v.cells 0 := by
        simp [Builtin.zeroCells]
      rw [e5, e4, m1]
      simp [newRow, go_sem]
    · have hne : ¬ len * z = 0 := fun h => by rcases Nat.mul_eq_zero.1 h with h | h <;> omega
      rw [if_neg hne, Sem.run_bind, hzv, Result.andThen_ok, Sem.run_bind, Sem.run_pure, Result.andThen_ok]
      have e5 : (Array.map (fun x => v.cells[x % v.cells.size]!) (Array.range (len * z))) = Builtin.zeroCells v.cells len := by
        rw [← k4]
        rfl
      rw [e5, e4, m1]
      simp [newRow, go_sem]
  refine ⟨.value (.slice (some ⟨w.heap.size, 0, none⟩) len len), _, _, .inl ⟨_, rfl, fun tv q => by cases q; exact row_new (l := ⟨w.heap.size, 0, len⟩) (Nat.le_refl _)⟩, ?_, hx⟩
  simp only [execOp, ho, Sem.run_bind, hb, Result.andThen_ok]
  rfl
theorem does_clear0 {t : TypeId} {x : Operand} {d : TypeDesc} {c : CV} (ho : o.op = .call { callee := .builtin .clear, args := #[x], argTypes := #[t] }) (ht : P.underlying t = some d) (hx : opd T x = some (.s (.c c))) (h1 : emptyS c = true) : Does P B T H o none H := fun φ ρ w h sr hB => by
  have e1 : cvV φ c = some (ρ x) := h _ _ hx
  obtain ⟨a, q, m1⟩ := emptyS_ok h1 e1
  refine ⟨.value (.tuple #[]), φ, w, .inl ⟨_, rfl, fun tv q => by cases q⟩, ?_, Ext.refl sr⟩
  rw [run_builtin ho]
  cases a <;> simp [builtin, Builtin.clear_, run_underlying ht, m1, go_sem]
theorem does_clear {t e : TypeId} {x : Operand} {z by' : Nat} {b : Bn} {p d n q : Nat} {T' : TypeId} {st : Bool} {cs cs' zc : List CV} (ho : o.op = .call { callee := .builtin .clear, args := #[x], argTypes := #[t] }) (ht : stApp P t = some (e, z, by')) (hz : zeroCs P e = some zc) (hx : ops' T x = some (b, p, d, n, q)) (hn : Nat.blt 0 n = true) (hb : H.cells b = some (T', st, cs)) (h1 : zc.all oneC = true) (hst : stN cs p (repC zc n) = some cs') :
    Does P B T H o none (H.set b (.cells T' st cs')) := fun φ ρ w h sr hB => by
  obtain ⟨i', v, k1, k2, k3, k4, k5, k6, k7⟩ := stApp_ok ht
  obtain ⟨i2, v2, r1, r2, r3⟩ := zeroCs_ok (φ := φ) hz
  rw [k2] at r1
  cases r1
  rw [k3] at r2
  cases r2
  obtain ⟨l, n1, n2, n3⟩ := ops_ok h hx
  have hn : 0 < n := Nat.blt_eq.mp hn
  rw [if_neg (by omega)] at n3
  have hvs := repC_ok r3 n
  rw [← rep_cells] at hvs
  have hr := stores_ok sr hb hst n1 hvs (rep_one h1 n)
  have hzv : (zeroValue e).run P w = .ok v w := by simp [zeroValue, typeInfo, k2, k3, go_sem]
  refine ⟨.value (.tuple #[]), φ, _, .inl ⟨_, rfl, fun tv q => by cases q⟩, ?_, sr.store hb hst n1 hvs⟩
  rw [run_builtin ho]
  have hc : (Builtin.clear_ #[t] o.type #[.slice (some ⟨l.b, l.s + p, none⟩) n (l.c - d)]).run P w = .ok (.tuple #[]) (w.setCells l.b (l.s + p) (Builtin.zeroCells v.cells n).toList) := by
    obtain ⟨n', rfl⟩ : ∃ n', n = n' + 1 := ⟨n - 1, by omega⟩
    unfold Builtin.clear_
    simp only [List.getElem?_toArray, List.getElem?_cons_zero]
    rw [Sem.run_bind, run_underlying k1, Result.andThen_ok]
    simp only [Sem.run_bind, hzv, Result.andThen_ok, hr]
    rfl
  have ha : (#[x].map ρ) = #[.slice (some ⟨l.b, l.s + p, none⟩) n (l.c - d)] := by simp [n3]
  simp only [builtin, ha, Sem.run_bind, hc, Result.andThen_ok]
  rfl
end
end Ev
end Go.Proofs.YtajhndakkaniaaaGreatDoor
