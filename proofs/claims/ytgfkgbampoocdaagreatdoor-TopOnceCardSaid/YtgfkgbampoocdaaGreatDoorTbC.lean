/- A buffer of one byte (chapter 7), evaluated: New, Put, Data. -/
import Derived.Test.YtgfkgbampoocdaaGreatDoorTopRun
import Derived.Test.YtgfkgbampoocdaaGreatDoorObj
namespace Go.Proofs.YtgfkgbampoocdaaGreatDoor
open Go.RowKit

namespace Ev
theorem SR.kept {P : Program} {B : Nat} {φ : Ren} {H : Hp} {w w' : World} {M : Nat → Prop} (h : SR P B φ H w) (hk : Kept M w w') (hM : ∀ x o l, H.t.get x = some o → φ x = some l → ¬ M l.b) : SR P B φ H w' :=
  ⟨fun x o hx => by
    obtain ⟨l, obj, h1, h2, h3, h4⟩ := h.live x o hx
    exact ⟨l, obj, h1, hk.heap h2 (hM x o l hx h1), h3, h4⟩, h.inj, h.fresh⟩
/-- one byte, in a block of its own -/
noncomputable def H0 : Hp := ⟨Tr.upd (some (.cells 5 false [.k (.int .u8 7)])) .z .nil, .o .z⟩
noncomputable def getP : Option (TV × Hp) → Option (Bn × Nat × Hp)
  | some (.t [.c (.p x o), .c (.k v)], H) => match valEq v (.int .i64 0) with
    | true => some (x, o, H)
    | false => none
  | _ => none
noncomputable def getA : Option (TV × Hp) → Option Hp
  | some (.t [.c (.k u), .c (.k v)], H) => match valEq u (.int .i64 1) && valEq v (.int .i64 0) with
    | true => some H
    | false => none
  | _ => none
noncomputable def getD : Option (TV × Hp) → Bool
  | some (.t [.c (.s _ _ _ _ _), .c (.k v)], _) => valEq v (.bool true)
  | _ => false
noncomputable def argPut (x : Bn) (o : Nat) : List TV := [.s (.c (.p x o)), .s (.c (.k (.int .i64 0))), .s (.c (.s .z 0 0 1 0))]
noncomputable def runNew : Option (Bn × Nat × Hp) := getP (ev 40 62 [.s (.c (.k (.int .i64 1))), .s (.c (.k (.int .i64 1000)))] H0)
noncomputable def runPut (x : Bn) (o : Nat) (H : Hp) : Option Hp := getA (ev 40 26 (argPut x o) H)
noncomputable def runDat (x : Bn) (o : Nat) (H : Hp) : Bool := getD (ev 40 27 [.s (.c (.p x o))] H)
noncomputable def keepsZ (H : Hp) : Bool := match H.cells .z with
  | some _ => true
  | none => false
noncomputable def runAll : Bool := match runNew with
  | some (x, o, H) => match keepsZ H with
    | true => match runPut x o H with
      | some H' => runDat x o H'
      | none => false
    | false => false
  | none => false
set_option maxRecDepth 100000 in
theorem buf_run : runAll = true := by kernel_rfl
theorem buf_ex : ∃ x o H H', runNew = some (x, o, H) ∧ keepsZ H = true ∧ runPut x o H = some H' ∧ runDat x o H' = true := by
  have h := buf_run
  unfold runAll at h
  split at h
  · rename_i x o H e1
    split at h
    · rename_i e2
      split at h
      · rename_i H' e3
        exact ⟨x, o, H, H', e1, e2, e3, h⟩
      · cases h
    · cases h
  · cases h
theorem getP_ok {r : Option (TV × Hp)} {x : Bn} {o : Nat} {H : Hp} (h : getP r = some (x, o, H)) : r = some (.t [.c (.p x o), .c (.k (.int .i64 0))], H) := by
  unfold getP at h
  split at h
  · split at h
    · rename_i e
      cases h
      rw [valEq_ok e]
    · cases h
  · cases h
theorem getA_ok {r : Option (TV × Hp)} {H : Hp} (h : getA r = some H) : r = some (.t [.c (.k (.int .i64 1)), .c (.k (.int .i64 0))], H) := by
  unfold getA at h
  split at h
  · split at h
    · rename_i e
      rw [Bool.and_eq_true] at e
      cases h
      rw [valEq_ok e.1, valEq_ok e.2]
    · cases h
  · cases h
theorem getD_ok {r : Option (TV × Hp)} (h : getD r = true) : ∃ x o d n e H, r = some (.t [.c (.s x o d n e), .c (.k (.bool true))], H) := by
  unfold getD at h
  split at h
  · rw [valEq_ok h]
    exact ⟨_, _, _, _, _, _, rfl⟩
  · cases h
end Ev
/-- a buffer that holds what H says, at address v; the byte that is put in is at block a -/
def BufAt (x : Ev.Bn) (o : Nat) (H : Ev.Hp) (a B : Nat) (v : Addr) (w : World) : Prop := ∃ φ l, Ev.SR Tryz.prog 0 φ H w ∧ φ x = some l ∧ v = ⟨l.b, l.s + o, none⟩ ∧ φ .z = some ⟨a, 0, 1⟩ ∧ ∀ y q k, H.t.get y = some q → φ y = some k → k.b = a ∨ B ≤ k.b
theorem BufAt.kept {x : Ev.Bn} {o : Nat} {H : Ev.Hp} {a B : Nat} {v : Addr} {w w' : World} {M : Nat → Prop} (h : BufAt x o H a B v w) (hk : Kept M w w') (ha : ¬ M a) (hB : ∀ b, B ≤ b → ¬ M b) : BufAt x o H a B v w' := by
  obtain ⟨φ, l, h1, h2, h3, h4, h5⟩ := h
  exact ⟨φ, l, h1.kept hk fun y q k hy hk' => by
    rcases h5 y q k hy hk' with e | e
    · rw [e]; exact ha
    · exact hB _ e, h2, h3, h4, h5⟩
def AorB (a B : Nat) : Nat → Prop := fun x => x = a ∨ B ≤ x
theorem kept_ext {φ φ' : Ev.Ren} {H H' : Ev.Hp} {w w' : World} {a B : Nat} (hx : Ev.Ext Tryz.prog 0 φ H w φ' H' w') (hl : ∀ y q k, H.t.get y = some q → φ y = some k → k.b = a ∨ B ≤ k.b) : Kept (AorB a B) w w' :=
  ⟨hx.os, hx.tape, hx.output, hx.size, fun b hb hn => hx.frame b hb fun y q k hy hk e => hn (by
    have := hl y q k hy hk
    rw [e] at this
    exact this)⟩
theorem sr_byte {a : Nat} {w : World} (h : Ob w a #[.int .u8 7] 5) : Ev.SR Tryz.prog 0 (Ev.name (fun _ => none) .z ⟨a, 0, 1⟩) Ev.H0 w := by
  have g0 : ∀ y q, Ev.H0.t.get y = some q → y = .z ∧ q = .cells 5 false [.k (.int .u8 7)] := fun y q hy => by
    by_cases e : y = .z
    · subst e
      have : some (Ev.AO.cells 5 false [.k (.int .u8 7)]) = some q := (Ev.Tr.get_upd (some (Ev.AO.cells 5 false [.k (.int .u8 7)])) Ev.Bn.z Ev.Tr.nil).symm.trans hy
      cases this
      exact ⟨rfl, rfl⟩
    · have : none = some q := ((Ev.Tr.get_other (some (Ev.AO.cells 5 false [.k (.int .u8 7)])) Ev.Bn.z y Ev.Tr.nil e).trans (Ev.Tr.get_nil _)).symm.trans hy
      cases this
  obtain ⟨i0, hi, hz0, hz1, hz2⟩ := info_parts infoByte
  refine ⟨fun y q hy => ?_, fun y y' q q' l k hy hy' _ _ _ => ?_, fun y l hl => ?_⟩
  · obtain ⟨rfl, rfl⟩ := g0 y q hy
    refine ⟨⟨a, 0, 1⟩, _, Ev.name_same _ _ _, h, ⟨_, (0, 0), i0, rfl, hi, by show 0 + 1 * i0.size ≤ _; rw [hz1]; decide, by show 1 ≤ 1 * i0.size; rw [hz1]; decide, .inl rfl, fun j c hj => ?_⟩, Nat.zero_le _⟩
    cases j with
    | zero =>
      cases hj
      exact ⟨_, rfl, rfl⟩
    | succ j => cases hj
  · rw [(g0 y q hy).1, (g0 y' q' hy').1]
  · by_cases e : y = .z
    · subst e
      exact Nat.zero_lt_one
    · rw [Ev.name_other _ _ e] at hl
      cases hl
set_option maxRecDepth 100000 in
theorem new_byte {x : Ev.Bn} {o : Nat} {H : Ev.Hp} (hr : Ev.runNew = some (x, o, H)) (a : Nat) (w : World) (h : Ob w a #[.int .u8 7] 5) :
    Calls Tryz.prog 62 #[.int .i64 1, .int .i64 1000] w fun e w' => ∃ v, e = .returned (.tuple #[.pointer (some v), .int .i64 0]) ∧ BufAt x o H a w.heap.size v w' ∧ Kept (Only a) w w' := by
  have hg := Ev.getP_ok hr
  have sr := sr_byte h
  have hl0 : ∀ y q k, Ev.H0.t.get y = some q → Ev.name (fun _ => none) .z ⟨a, 0, 1⟩ y = some k → k.b = a := fun y q k _ hk => by
    by_cases e : y = .z
    · rw [e, Ev.name_same] at hk
      cases hk
      rfl
    · rw [Ev.name_other _ _ e] at hk
      cases hk
  refine ((Ev.ev_ok 0 40 _ _ _ _ _ hg).2 _ #[.int .i64 1, .int .i64 1000] w rfl sr (Nat.zero_le _)).mono ?_
  rintro e w' ⟨u, φ', rfl, hu, hx⟩
  simp only [Ev.tvV, Ev.svsV, Ev.svV, Ev.cvV, Ev.ptrV] at hu
  cases hφ : φ' x with
  | none => rw [hφ] at hu; cases hu
  | some l =>
    rw [hφ] at hu
    cases hu
    refine ⟨_, rfl, ⟨φ', l, hx.sr, hφ, rfl, hx.le _ _ (Ev.name_same _ _ _), fun y q k hy hk => ?_⟩, ?_⟩
    · rcases hx.own y q k hy hk with ⟨y', q', k', h1, h2, h3⟩ | h1
      · exact .inl (by rw [← h3]; exact hl0 y' q' k' h1 h2)
      · exact .inr h1
    · exact (kept_ext (B := w.heap.size) hx fun y q k hy hk => .inl (hl0 y q k hy hk)).mono fun b hb h => h.elim id fun e => absurd hb (Nat.not_lt.2 e)
theorem put_byte {x : Ev.Bn} {o : Nat} {H H' : Ev.Hp} (hr : Ev.runPut x o H = some H') (a B : Nat) (v : Addr) (w : World) (h : BufAt x o H a B v w) (hB : B ≤ w.heap.size) :
    Calls Tryz.prog 26 #[.pointer (some v), .int .i64 0, .slice (some ⟨a, 0, none⟩) 1 1] w fun e w' => e = .returned (.tuple #[.int .i64 1, .int .i64 0]) ∧ BufAt x o H' a B v w' ∧ Kept (AorB a B) w w' := by
  obtain ⟨φ, l, sr, h2, rfl, h4, h5⟩ := h
  have hg := Ev.getA_ok hr
  have ha : Ev.tvsV φ (Ev.argPut x o) = some (#[.pointer (some ⟨l.b, l.s + o, none⟩), .int .i64 0, .slice (some ⟨a, 0, none⟩) 1 1] : Array Value).toList := by
    simp only [Ev.argPut, Ev.tvsV, Ev.tvV, Ev.svV, Ev.cvV, Ev.ptrV, h2, h4]
    rfl
  refine ((Ev.ev_ok 0 40 _ _ _ _ _ hg).2 φ _ w ha sr (Nat.zero_le _)).mono ?_
  rintro e w' ⟨u, φ', rfl, hu, hx⟩
  cases hu
  refine ⟨rfl, ⟨φ', l, hx.sr, hx.le _ _ h2, rfl, hx.le _ _ h4, fun y q k hy hk => ?_⟩, kept_ext hx h5⟩
  rcases hx.own y q k hy hk with ⟨y', q', k', h1, h2, h3⟩ | h1
  · rw [← h3]
    exact h5 y' q' k' h1 h2
  · exact .inr (Nat.le_trans hB h1)
theorem data_byte {x : Ev.Bn} {o : Nat} {H : Ev.Hp} (hr : Ev.runDat x o H = true) (a B : Nat) (v : Addr) (w : World) (h : BufAt x o H a B v w) :
    Calls Tryz.prog 27 #[.pointer (some v)] w fun e w' => ∃ p n c, e = .returned (.tuple #[.slice p n c, .bool true]) ∧ Kept (AorB a B) w w' := by
  obtain ⟨φ, l, sr, h2, rfl, h4, h5⟩ := h
  obtain ⟨x1, o1, d1, n1, e1, H1, hg⟩ := Ev.getD_ok hr
  have ha : Ev.tvsV φ [.s (.c (.p x o))] = some (#[.pointer (some ⟨l.b, l.s + o, none⟩)] : Array Value).toList := by
    simp only [Ev.tvsV, Ev.tvV, Ev.svV, Ev.cvV, Ev.ptrV, h2]
  refine ((Ev.ev_ok 0 40 _ _ _ _ _ hg).2 φ _ w ha sr (Nat.zero_le _)).mono ?_
  rintro e w' ⟨u, φ', rfl, hu, hx⟩
  simp only [Ev.tvV, Ev.svsV, Ev.svV, Ev.cvV] at hu
  cases hφ : φ' x1 with
  | none => rw [hφ] at hu; cases hu
  | some k =>
    rw [hφ] at hu
    simp only at hu
    by_cases hroom : n1 + d1 ≤ k.c
    · rw [if_pos hroom] at hu
      cases hu
      exact ⟨_, _, _, rfl, kept_ext hx h5⟩
    · rw [if_neg hroom] at hu
      cases hu
end Go.Proofs.YtgfkgbampoocdaaGreatDoor
