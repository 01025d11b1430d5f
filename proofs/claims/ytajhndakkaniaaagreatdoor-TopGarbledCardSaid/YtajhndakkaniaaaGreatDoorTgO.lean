/- TopGarbled: the row's statement. -/
import Derived.Test.YtajhndakkaniaaaGreatDoorTgN
import Derived.Test.YtajhndakkaniaaaGreatDoorTgX
import Derived.Test.YtajhndakkaniaaaGreatDoorTgGM
import Derived.Test.YtajhndakkaniaaaGreatDoorWireIn
namespace Go.Proofs.YtajhndakkaniaaaGreatDoor.topGarbled
open Go.ChangeShapes Go.WideShapes Go.ChangeAt Go.RowKit Go.Joins
set_option linter.unusedVariables false
set_option maxRecDepth 100000 in
theorem lifted (os : Os) (started : os.Started) (H : Type) (enc : TypeId × Value → H) :
    ReturnsInHanded {} Tryz.checked os 4 .any (fun w args => (Rows.topGarbledSpec.pre enc Tryz.prog Tryz.f4 Rows.topGarbledRow.domain false w args ∧ laidMetH Tryz.prog L w) ∧ sizedMet enc Tryz.prog Tryz.f4 (OpenSpec.ofChange Rows.topGarbledSpec) false w args)
      (Rows.topGarbledSpec.post enc Tryz.prog Tryz.f4 false true false false) := by
  refine returnsInHanded_of_change_and (C := Tryz.checked) (X := fun w _ => laidMetH Tryz.prog L w) (fun _ _ _ hh h => h.of_heap hh) own started (by kernel_rfl) Tryz.func4
    (ChangeSpec.witness_shaped (enc := enc) (C := Tryz.checked) (os := os) (X := fun w _ => laidMetH Tryz.prog L w) false (wit os) wargs 8 (World.laidAll_os _ _ _)
      (shaped os) (by kernel_rfl) (by kernel_rfl) (by kernel_rfl)
      (by rw [MakeChecks.laidMetH_plain _ _ _ (by kernel_rfl)]; exact laidMet_laidAll _ (fits os) (ifaces os))) ?_
  intro W base args ds gs before hval0 hW hcnd _ _ _
  have hval : ∀ (j : Nat) t v, Tryz.f4.params[j]? = some t → args[j]? = some v → Value.okWide Tryz.prog W .any base t v := hval0
  have hW' := hW
  obtain ⟨p, q, hA0, hV, rfl, hfz, hnd⟩ := hW
  have hA : DataW.TrodAll enc Tryz.prog W 0 (fun _ => true) true Tryz.f4.params.toList args.toList ds p := hA0
  rw [Tryz.params4] at hA hval
  obtain ⟨v0, vs0, d0, ds0, p0, q0, hargs, rfl, rfl, h0, r0⟩ := trodAll_cons hA
  obtain ⟨v1, vs1, d1, ds1, p1, q1, rfl, rfl, rfl, h1, r1⟩ := trodAll_cons r0
  obtain ⟨v2, vs2, d2, ds2, p2, q2, rfl, rfl, rfl, h2, r2⟩ := trodAll_cons r1
  obtain ⟨v3, vs3, d3, ds3, p3, q3, rfl, rfl, rfl, h3, r3⟩ := trodAll_cons r2
  obtain ⟨rfl, rfl, rfl⟩ := trodAll_nil r3
  obtain rfl : args = #[v0, v1, v2, v3] := by cases args; simp_all
  obtain ⟨rfl, rfl⟩ := trodVars_none hV
  obtain ⟨a0, rfl, rfl, rfl, w0⟩ := open_int Tryz.underlying3 (hval 0 3 v0 rfl rfl) h0
  have wf0 := wf_i64 w0
  obtain ⟨f1, z1, rfl, hm1, hr1, hb1⟩ := open_fr (hval 1 44 v1 rfl rfl) h1
  obtain ⟨z2, hr2, wz2⟩ := open_intsR Tryz.underlying45 Tryz.underlying3 cells3 (hval 2 45 v2 rfl rfl) h2
  obtain ⟨l3, hr3⟩ := open_bytesR Tryz.underlying33 Tryz.underlying5 cells5 (hval 3 33 v3 rfl rfl) h3
  refine (garb_any ⟨_, _, _, _, g0facts⟩ ⟨_, _, _, _, g1facts⟩ ⟨_, _, _, _, g2facts⟩ a0 f1 z1 z2 v2 l3 v3 W hm1 hr1 hr2 hr3).mono fun e W' ⟨he, bel⟩ => ?_
  subst he
  exact ⟨_, rfl, true_post laidOut params_ok rfl Tryz.underlying4 hW' rfl rfl rfl rfl bel⟩
end Go.Proofs.YtajhndakkaniaaaGreatDoor.topGarbled
