/- What the document fixes comes true: a closed run, evaluated. -/
import Derived.Test.YtajhndakkaniaaaGreatDoorTopAw
import Derived.Test.YtajhndakkaniaaaGreatDoorFzM
import Derived.Test.YtajhndakkaniaaaGreatDoorLib
import Derived.WalkKit
namespace Go.Proofs.YtajhndakkaniaaaGreatDoor
open Go.RowKit

namespace Ev
noncomputable def isT : Option (TV × Hp) → Bool
  | some (.s (.c (.k (.bool true))), _) => true
  | _ => false
theorem isT_ok {r : Option (TV × Hp)} (h : isT r = true) : ∃ H, r = some (.s (.c (.k (.bool true))), H) := by
  unfold isT at h
  split at h
  · exact ⟨_, rfl⟩
  · cases h
set_option maxRecDepth 100000 in
theorem awake_run : isT (ev 60 5 [] ⟨.nil, .z⟩) = true := by kernel_rfl
theorem sr_nil (P : Program) (B : Nat) (w : World) : SR P B (fun _ => none) ⟨.nil, .z⟩ w := by
  have hn : ∀ x o, (Hp.mk Tr.nil Bn.z).t.get x ≠ some o := fun x o h => by
    rw [show (Hp.mk Tr.nil Bn.z).t.get x = none from Tr.get_nil x] at h
    cases h
  exact ⟨fun x o h => absurd h (hn x o), fun x _ o _ _ _ h => absurd h (hn x o), fun x l h => by cases h⟩
end Ev
theorem awake_any (w : World) : Calls Tryz.prog 5 #[] w fun e w' => e = .returned (.bool true) ∧ Below w.heap.size w w' := by
  obtain ⟨H, h⟩ := Ev.isT_ok Ev.awake_run
  refine ((Ev.ev_ok w.heap.size 60 _ _ _ _ _ h).2 (fun _ => none) #[] w rfl (Ev.sr_nil _ _ _) (Nat.le_refl _)).mono ?_
  rintro e w' ⟨u, φ', rfl, hu, hx⟩
  cases hu
  refine ⟨rfl, hx.os, hx.tape, hx.output, hx.size, fun b hb => hx.frame b hb fun x o l ho => ?_⟩
  rw [show (Ev.Hp.mk Ev.Tr.nil Ev.Bn.z).t.get x = none from Ev.Tr.get_nil x] at ho
  cases ho
end Go.Proofs.YtajhndakkaniaaaGreatDoor
/- World.Fair: as many rounds as it takes, each of them evaluated. -/
namespace Go.Proofs.YtajhndakkaniaaaGreatDoor
open Go.RowKit

abbrev fIdle : FuncId := 28
abbrev fRound : FuncId := 29
theorem Ev.ptTV_ok {φ : Ev.Ren} {x : Ev.Bn} {l : Ev.Loc} (h : φ x = some l) : Ev.tvsV φ [Ev.ptTV x] = some [.pointer (some ⟨l.b, l.s, none⟩)] := by
  simp only [Ev.tvsV, Ev.tvV, Ev.svV, Ev.cvV, Ev.ptrV, h, Nat.add_zero]
/-- where one is in memory: what it tells, and nothing below was touched -/
structure At (B : Nat) (φ : Ev.Ren) (w0 : World) (K : Ev.Hp) (ψ : Ev.Ren) (w : World) : Prop where
  sr : Ev.SR Tryz.prog B ψ K w
  le : Ev.Le φ ψ
  bel : Below B w0 w
  size : B ≤ w.heap.size
theorem At.ext {B : Nat} {φ : Ev.Ren} {w0 : World} {K K' : Ev.Hp} {ψ ψ' : Ev.Ren} {w w' : World} (h : At B φ w0 K ψ w) (hx : Ev.Ext Tryz.prog B ψ K w ψ' K' w') : At B φ w0 K' ψ' w' :=
  ⟨hx.sr, h.le.trans hx.le, h.bel.trans (Ev.Ext.under h.sr hx h.size (Nat.le_refl _)), Nat.le_trans h.size hx.size⟩
theorem At.sub {B : Nat} {φ : Ev.Ren} {w0 : World} {K K' : Ev.Hp} {ψ : Ev.Ren} {w : World} (h : At B φ w0 K ψ w) (hs : Ev.Sub K' K) : At B φ w0 K' ψ w := ⟨hs _ _ _ _ h.sr, h.le, h.bel, h.size⟩
/-- an evaluated call -/
theorem At.call {B n : Nat} {φ : Ev.Ren} {w0 : World} {K K' : Ev.Hp} {ψ : Ev.Ren} {w : World} {f : FuncId} {l : List Ev.TV} {v : Ev.TV} (h : At B φ w0 K ψ w) (he : Ev.ev n f l K = some (v, K')) {args : Array Value} (ha : Ev.tvsV ψ l = some args.toList) :
    Calls Tryz.prog f args w fun e w' => ∃ u ψ', e = .returned u ∧ Ev.tvV ψ' v = some u ∧ Ev.Ext Tryz.prog B ψ K w ψ' K' w' ∧ At B φ w0 K' ψ' w' :=
  ((Ev.ev_ok B n f l K v K' he).2 ψ args w ha h.sr h.size).mono (by
    rintro e w' ⟨u, ψ', h1, h2, h3⟩
    exact ⟨u, ψ', h1, h2, h3, h.ext h3⟩)
theorem fair_any {B n N : Nat} {x : Ev.Bn} {F H : Ev.Hp} {φ ψ0 : Ev.Ren} {w0 w : World} {l : Ev.Loc} (rounds : Int) (he : Ev.Ends (Ev.ev n) fIdle fRound x F N H) (hN : (N : Int) < rounds) (hr : rounds ≤ 1000000) (h : At B φ w0 H ψ0 w) (hl : φ x = some l) :
    Calls Tryz.prog 10 #[.pointer (some ⟨l.b, l.s, none⟩), .int .i64 rounds] w fun e w' => ∃ k ψ, e = .returned (.int .i64 k) ∧ At B φ w0 F ψ w' := by
  have HE := Lib.hid he
  have HT := Lib.hid h
  have HL := Lib.hid hl
  clear he h hl
  go_enter Tryz.func10, Tryz.ntmps10
  go_wp2_with fail
  go_loopw [4] (fun i wr => ∃ (k m : Nat) (K : Ev.Hp) (ψ : Ev.Ren), i = .int .i64 k ∧ k + m = N ∧ Ev.Ends (Ev.ev n) fIdle fRound x F m K ∧ At B φ w0 K ψ wr) (fun i _ => N - (intOf i).toNat)
  case atStart => exact ⟨0, N, H, ψ0, rfl, by omega, HE.out, HT.out⟩
  case round =>
    obtain ⟨k, m, K, ψ, rfl, hkm, hk, hat⟩ := hrel
    have HA := Lib.hid hat
    clear hat
    have hkr : (k : Int) < rounds := by omega
    go_wp2_with fail
    cases hk with
    | done h1 hs =>
      refine (HA.out.call h1 (Ev.ptTV_ok (HA.out.le _ _ HL.out))).mono ?_
      rintro e w1 ⟨u, ψ1, rfl, hu, _, hat⟩
      cases hu
      have HB := Lib.hid hat
      clear hat
      go_wp2_with fail
      go_ret
      exact ⟨k, ψ1, rfl, HB.out.sub hs⟩
    | more h1 h2 hs hk =>
      refine (HA.out.call h1 (Ev.ptTV_ok (HA.out.le _ _ HL.out))).mono ?_
      rintro e w1 ⟨u, ψ1, rfl, hu, _, hat⟩
      cases hu
      have HB := Lib.hid hat
      clear hat
      go_wp2_with fail
      refine (HB.out.call h2 (Ev.ptTV_ok (HB.out.le _ _ HL.out))).mono ?_
      rintro e w2 ⟨u, ψ2, rfl, hu, _, hat⟩
      have HC := Lib.hid hat
      clear hat
      go_wp2_with fail
      go_roundw
      case rel => exact ⟨k + 1, _, _, ψ2, by go_num, by omega, hk, HC.out.sub hs⟩
      case measure => simp [intOf]; omega
end Go.Proofs.YtajhndakkaniaaaGreatDoor
