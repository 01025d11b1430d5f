/- slices.Clone at bytes. -/
import Derived.Test.YtoihhidoafgoaaaIns
import Derived.Test.YtoihhidoafgoaaaObj
import Derived.Test.YtoihhidoafgoaaaRun
import Derived.Test.YtoihhidoafgoaaaProg
namespace Go.Proofs.Ytoihhidoafgoaaa
open Go.RowKit
theorem info_u8 : (Try.prog.info? 5).map (fun i => (i.zero, i.size, i.bytes)) = some (some (.int .u8 0), 1, 1) := by kernel_rfl
set_option maxHeartbeats 1000000 in
theorem clone_u8 (v : Value) (n : Nat) (xs : List Value) (w : World) (h : Rd w 1 v n xs) (h1 : ∀ u ∈ xs, u.oneCell' = true) (hbig : n * 1 ≤ 140737488355328) :
    Calls Try.prog 81 #[v] w fun e w' => ∃ v', e = .returned v' ∧ w'.ownsRow w.heap.size 5 1 v' n xs ∧ Below w.heap.size w w' := by
  rcases h with ⟨rfl, rfl, rfl⟩ | ⟨a, c, rfl, h2, h3, h4, h5⟩
  · go_enter Try.func81, Try.ntmps81
    go_wp2_with fail
    go_ret
    exact ⟨_, rfl, World.ownsRow_nil _ _ _ _, Below.refl _ _⟩
  · have hr : Rd w 1 (.slice (some a) n c) n xs := .inr ⟨a, c, rfl, h2, h3, h4, h5⟩
    have HR := Lib.hid (hr.alloc (.cells #[] 5))
    have HO := Lib.hid (World.ownsRow_made (base := w.heap.size) (e := 5) (size := 1) w #[] 0 (by simp) (by decide) rfl)
    clear hr h4 h5
    go_enter Try.func81, Try.ntmps81
    go_wp2_with (at_builtin; refine wpList_appAt rfl (.tmp 5) (.tmp 6) 32 rfl info_u8 Try.underlying32 rfl (by decide) HO.out HR.out rfl rfl h1 (by omega) (by simp) ?_; intro v' w' ho' hg' hb')
    go_ret
    exact ⟨_, rfl, by simpa using ho', ((Below.refl w.heap.size w).alloc (Nat.le_refl _) _).grown hg' (by simp) (fun y hy => (HO.out.lt y hy).1)⟩
end Go.Proofs.Ytoihhidoafgoaaa
