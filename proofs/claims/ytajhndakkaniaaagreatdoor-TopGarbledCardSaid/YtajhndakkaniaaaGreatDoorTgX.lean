/- TopGarbled: all that is evaluated. -/
import Derived.Test.YtajhndakkaniaaaGreatDoorTgF00
import Derived.Test.YtajhndakkaniaaaGreatDoorTgF01
import Derived.Test.YtajhndakkaniaaaGreatDoorTgF02
import Derived.Test.YtajhndakkaniaaaGreatDoorTgF1
import Derived.Test.YtajhndakkaniaaaGreatDoorTgF20
import Derived.Test.YtajhndakkaniaaaGreatDoorTgF21
namespace Go.Proofs.YtajhndakkaniaaaGreatDoor
open Go Ev
set_option maxRecDepth 100000
theorem steps_back {m : Nm} {K0 K1 : Hp}
    (s0 : ∀ b0 b1 b2, runM (ev 60) fStep [ptTV m.x, inTV 0, inTV 0] m.h0 m.h1 m.h2 16 K0 K1 b0 b1 b2 = doneM b0 b1 b2)
    (s1 : ∀ b0 b1 b2, runB (ev 60) fStep [ptTV m.x, inTV 1, inTV 1] m.h0 m.h1 m.h2 16 K1 b0 b1 b2 = doneM b0 b1 b2)
    (s2 : ∀ b0 b1 b2, runB (ev 60) fStep [ptTV m.x, inTV 2, inTV 2] m.h0 m.h1 m.h2 16 K1 b0 b1 b2 = doneM b0 b1 b2)
    (s3 : ∀ b0 b1 b2, runB (ev 60) fStep [ptTV m.x, inTV 0, inTV 3] m.h0 m.h1 m.h2 16 K1 b0 b1 b2 = doneM b0 b1 b2)
    (t0 : ∀ p b0 b1 b2, runB (ev 60) fStep [ptTV m.x, inTV 0, inTV p] m.h0 m.h1 m.h2 16 K1 b0 b1 b2 = doneM b0 b1 b2)
    (t1 : ∀ p b0 b1 b2, runB (ev 60) fStep [ptTV m.x, inTV 1, inTV p] m.h0 m.h1 m.h2 16 K1 b0 b1 b2 = doneM b0 b1 b2)
    (t2 : ∀ p b0 b1 b2, runB (ev 60) fStep [ptTV m.x, inTV 2, inTV p] m.h0 m.h1 m.h2 16 K1 b0 b1 b2 = doneM b0 b1 b2) :
    ∀ n : Nat, RunF 60 fStep [ptTV m.x, inTV ((n % 3 : Nat) : Int), inTV n] m (kst K0 K1 K1 n) (kst K0 K1 K1 (n + 1))
  | 0 => .inl s0
  | 1 => .inr ⟨rfl, s1⟩
  | 2 => .inr ⟨rfl, s2⟩
  | 3 => .inr ⟨rfl, s3⟩
  | n + 4 => by
    show RunF 60 fStep [ptTV m.x, inTV (((n + 4) % 3 : Nat) : Int), inTV ((n + 4 : Nat) : Int)] m K1 K1
    have h3 : (n + 4) % 3 = 0 ∨ (n + 4) % 3 = 1 ∨ (n + 4) % 3 = 2 := by omega
    rcases h3 with e | e | e
    · rw [e]
      exact .inr ⟨rfl, t0 _⟩
    · rw [e]
      exact .inr ⟨rfl, t1 _⟩
    · rw [e]
      exact .inr ⟨rfl, t2 _⟩
theorem g2facts : Facts g2m g2a g2b g2b 3 0 0 := ⟨g2new, kst_all g2laya g2layb g2layb, steps_back g2s0 g2s1 g2s2 g2s3 g2t0 g2t1 g2t2, kst_all g2f0 g2f1 g2f1⟩
theorem g0facts : Facts g0m g0a g0b g0c 1 200 430 := ⟨g0new, kst_all g0laya g0layb g0layc, steps_of g0s0 g0s1 g0s2 g0s3 g0t0 g0t1 g0t2, kst_all g0f0 g0f1 g0f2⟩
theorem g1facts : Facts g1m g1a g1b g1c 2 2 0 := ⟨g1new, kst_all g1laya g1layb g1layc, steps_of g1s0 g1s1 g1s2 g1s3 g1t0 g1t1 g1t2, kst_all g1f0 g1f1 g1f2⟩
end Go.Proofs.YtajhndakkaniaaaGreatDoor
