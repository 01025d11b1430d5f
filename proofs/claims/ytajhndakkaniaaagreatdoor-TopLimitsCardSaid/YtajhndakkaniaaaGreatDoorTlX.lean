/- TopLimits: all that is evaluated. -/
import Derived.Test.YtajhndakkaniaaaGreatDoorTlF0A
import Derived.Test.YtajhndakkaniaaaGreatDoorTlF0B
import Derived.Test.YtajhndakkaniaaaGreatDoorTlF1A
import Derived.Test.YtajhndakkaniaaaGreatDoorTlF1B
import Derived.Test.YtajhndakkaniaaaGreatDoorTlF2A
import Derived.Test.YtajhndakkaniaaaGreatDoorTlF2B
import Derived.Test.YtajhndakkaniaaaGreatDoorTlF2C
import Derived.Test.YtajhndakkaniaaaGreatDoorTlF2D
import Derived.Test.YtajhndakkaniaaaGreatDoorTlF2E
namespace Go.Proofs.YtajhndakkaniaaaGreatDoor
open Go Ev
set_option maxRecDepth 100000
theorem l0eng : EngT l0m.t := eng_homa
theorem l0facts : FactsL l0m l0k 1 200 550 := ⟨l0new, fun n hn => (and_parts (all8 (p := fun n => (syms (l0k n) && wayL l0m (l0k n)) = true) l0way0 l0way1 l0way2 l0way3 l0way4 l0way5 l0way6 l0way7 n hn)).1, fun n hn => (and_parts (all8 (p := fun n => (syms (l0k n) && wayL l0m (l0k n)) = true) l0way0 l0way1 l0way2 l0way3 l0way4 l0way5 l0way6 l0way7 n hn)).2, all7 l0fit0 l0fit1 l0fit2 l0fit3 l0fit4 l0fit5 l0fit6, all27 l0full2 l0full3 l0full4 l0full5 l0full6 l0full7, all17 l0spent1 l0spent2 l0spent3 l0spent4 l0spent5 l0spent6, all8 l0held0 l0held1 l0held2 l0held3 l0held4 l0held5 l0held6 l0held7, all17b l0f1 l0f2 l0f3 l0f4 l0f5 l0f6 l0f7⟩
theorem l1eng : EngT l1m.t := eng_ndp
theorem l1facts : FactsL l1m l1k 2 2 0 := ⟨l1new, fun n hn => (and_parts (all8 (p := fun n => (syms (l1k n) && wayL l1m (l1k n)) = true) l1way0 l1way1 l1way2 l1way3 l1way4 l1way5 l1way6 l1way7 n hn)).1, fun n hn => (and_parts (all8 (p := fun n => (syms (l1k n) && wayL l1m (l1k n)) = true) l1way0 l1way1 l1way2 l1way3 l1way4 l1way5 l1way6 l1way7 n hn)).2, all7 l1fit0 l1fit1 l1fit2 l1fit3 l1fit4 l1fit5 l1fit6, all27 l1full2 l1full3 l1full4 l1full5 l1full6 l1full7, all17 l1spent1 l1spent2 l1spent3 l1spent4 l1spent5 l1spent6, all8 l1held0 l1held1 l1held2 l1held3 l1held4 l1held5 l1held6 l1held7, all17b l1f1 l1f2 l1f3 l1f4 l1f5 l1f6 l1f7⟩
theorem l2eng : EngT l2m.t := eng_xpass
theorem l2facts : FactsL l2m l2k 3 0 0 := ⟨l2new, fun n hn => (and_parts (all8 (p := fun n => (syms (l2k n) && wayL l2m (l2k n)) = true) l2way0 l2way1 l2way2 l2way3 l2way4 l2way5 l2way6 l2way7 n hn)).1, fun n hn => (and_parts (all8 (p := fun n => (syms (l2k n) && wayL l2m (l2k n)) = true) l2way0 l2way1 l2way2 l2way3 l2way4 l2way5 l2way6 l2way7 n hn)).2, all7 l2fit0 l2fit1 l2fit2 l2fit3 l2fit4 l2fit5 l2fit6, all27 l2full2 l2full3 l2full4 l2full5 l2full6 l2full7, all17 l2spent1 l2spent2 l2spent3 l2spent4 l2spent5 l2spent6, all8 l2held0 l2held1 l2held2 l2held3 l2held4 l2held5 l2held6 l2held7, all17b l2f1 l2f2 l2f3 l2f4 l2f5 l2f6 l2f7⟩
end Go.Proofs.YtajhndakkaniaaaGreatDoor
