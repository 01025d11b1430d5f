/- TopOnce (chapter 20): what lies there: the receivers, the second window, the list of what has ended. -/
import Derived.Test.YtgfkgbampoocdaaGreatDoorTbK
namespace Go.Proofs.YtgfkgbampoocdaaGreatDoor
open Go.RowKit

structure Tw (r : Rs) (m B : Nat) (V V2 out D : Value) (S T : Wd) (n : Nat) (el : List Int) (w : World) : Prop where
  rv : ∃ xs, Rv r B V S 0 none out n xs w ∧ Ms xs
  b : Wi m B V2 T w
  d : w.ownsRow B TU 1 D el.length (el.map (Value.int .u64))
  a1 : ∀ x, WM m V2 x → ¬ RvM r V out x
  a2 : ∀ x, D.ownBlock = some x → ¬ RvM r V out x ∧ ¬ WM m V2 x
section
variable {r : Rs} {m B : Nat} {V V2 out D : Value} {S T : Wd} {n : Nat} {el : List Int} {w w' : World}
theorem Tw.kept (h : Tw r m B V V2 out D S T n el w) (hk : Kept (fun _ => False) w w') : Tw r m B V V2 out D S T n el w' := by
  obtain ⟨⟨xs, h1, h2⟩, h3, h4, h5, h6⟩ := h
  exact ⟨⟨xs, h1.keptF hk, h2⟩, h3.kept hk fun _ _ hh => hh, own_kept h4 hk fun _ _ hh => hh, h5, h6⟩
theorem Tw.Rlt (h : Tw r m B V V2 out D S T n el w) : ∀ x, RvM r V out x → B ≤ x ∧ x < w.heap.size := by
  obtain ⟨⟨xs, h1, h2⟩, _⟩ := h
  exact h1.lt
theorem Tw.size (h : Tw r m B V V2 out D S T n el w) : B ≤ w.heap.size := Nat.le_of_lt (Nat.lt_of_le_of_lt (h.Rlt _ (.inl rfl)).1 (h.Rlt _ (.inl rfl)).2)
/-- the receivers have changed -/
theorem Tw.first {V' out' : Value} {S' : Wd} {n' : Nat} {xs' : List Value} {N : Nat → Prop} (h : Tw r m B V V2 out D S T n el w) (h1 : Rv r B V' S' 0 none out' n' xs' w') (h2 : Ms xs') (hk : Kept N w w') (hN : ∀ x, N x → RvM r V out x ∨ (B ≤ x ∧ ¬ WM m V2 x ∧ D.ownBlock ≠ some x)) (hn : ∀ y, RvM r V' out' y → RvM r V out y ∨ w.heap.size ≤ y) : Tw r m B V' V2 out' D S' T n' el w' ∧ Below B w w' := by
  have hR := h.Rlt
  have hs := h.size
  obtain ⟨⟨xs, k1, k2⟩, h3, h4, h5, h6⟩ := h
  refine ⟨⟨⟨xs', h1, h2⟩, h3.kept hk (fun x hx hh => ?_), own_kept h4 hk (fun x hx hh => ?_), fun x hx hh => ?_, fun x hx => ⟨fun hh => ?_, (h6 x hx).2⟩⟩, hk.belowAt hs fun x hx => ?_⟩
  · rcases hN x hh with e | e
    · exact h5 x hx e
    · exact e.2.1 hx
  · rcases hN x hh with e | e
    · exact (h6 x hx).1 e
    · exact e.2.2 hx
  · rcases hn x hh with e | e
    · exact h5 x hx e
    · have := (h3.lt x hx).2
      omega
  · rcases hn x hh with e | e
    · exact (h6 x hx).1 e
    · have := (own_lt h4 x hx).2
      omega
  · rcases hN x hx with e | e
    · exact (hR x e).1
    · exact e.1
/-- the second window has changed -/
theorem Tw.second {T' : Wd} (h : Tw r m B V V2 out D S T n el w) (hp : WiPost m B V2 T' w w') : ∃ V2', Tw r m B V V2' out D S T' n el w' ∧ Below B w w' := by
  have hR := h.Rlt
  have hs := h.size
  obtain ⟨⟨xs, k1, k2⟩, h3, h4, h5, h6⟩ := h
  obtain ⟨V', h1, h2, hn⟩ := hp
  refine ⟨V', ⟨⟨xs, k1.kept h2 (fun x hx hh => h5 x hh hx), k2⟩, h1, own_kept h4 h2 (fun x hx hh => (h6 x hx).2 hh), fun x hx hh => ?_, fun x hx => ⟨(h6 x hx).1, fun hh => ?_⟩⟩, h2.belowAt hs fun x hx => (h3.lt x hx).1⟩
  · rcases hn x hx with e | e
    · exact h5 x e hh
    · have := (hR x hh).2
      omega
  · rcases hn x hh with e | e
    · exact (h6 x hx).2 e
    · have := (own_lt h4 x hx).2
      omega
/-- one more has ended -/
theorem Tw.more {D' : Value} {x : Int} (h : Tw r m B V V2 out D S T n el w) (ho : w'.ownsRow B TU 1 D' (el.length + 1) (el.map (Value.int .u64) ++ [Value.int .u64 x])) (hg : w.grownBy w' D.ownBlock)
    (hb : D'.ownBlock = D.ownBlock ∨ D'.ownBlock = some w.heap.size) : Tw r m B V V2 out D' S T n (el ++ [x]) w' ∧ Below B w w' := by
  have hR := h.Rlt
  have hs := h.size
  obtain ⟨⟨xs, k1, k2⟩, h3, h4, h5, h6⟩ := h
  have hk := Kept.of_grown (M := fun y => D.ownBlock = some y) hg fun y hy => hy
  refine ⟨⟨⟨xs, k1.kept hk (fun y hy hh => (h6 y hh).1 hy), k2⟩, h3.kept hk (fun y hy hh => (h6 y hh).2 hy), by rw [List.length_append, List.length_singleton, List.map_append]; exact ho, h5, fun y hy => ?_⟩, hk.belowAt hs fun y hy => (own_lt h4 y hy).1⟩
  rcases hb with hb | hb
  · rw [hb] at hy
    exact h6 y hy
  · rw [hb] at hy
    injection hy with hy
    exact ⟨fun hu => by have := (hR y hu).2; omega, fun hu => by have := (h3.lt y hu).2; omega⟩
/-- a block of bytes is none of these -/
theorem Tw.byte (h : Tw r m B V V2 out D S T n el w) {a : Nat} {cs : Array Value} (ha : Ob w a cs 5) : ¬ WM m V2 a ∧ D.ownBlock ≠ some a := by
  obtain ⟨_, h3, h4, h5, h6⟩ := h
  refine ⟨fun hh => ?_, fun hh => ?_⟩
  · rcases hh with e | e
    · exact ob_ne ha h3.ob (by decide) e
    · obtain ⟨cur, hc⟩ := own_ob h3.own e
      exact ob_ne ha hc (by decide) rfl
  · obtain ⟨cur, hc⟩ := own_ob h4 hh
    exact ob_ne ha hc (by decide) rfl
end
/-- what the list holds has ended -/
def endedIn2 (s : Wd) (el : List Int) : Prop := ∀ x ∈ el, x ≠ 0 ∧ x ≤ 1152921504606846976 ∧ s.has x
theorem goes_len_le (s : Wd) (k : Int) : (s.goes k).l.length ≤ s.l.length := by
  rw [goes_len]; omega
theorem done_len_le (s : Wd) (id : Int) : (s.done id).l.length ≤ s.l.length + 1 := by
  rcases code_cases s id with ⟨_, e, _⟩ | ⟨_, e, _⟩ | ⟨_, e, _⟩ | ⟨_, e, _⟩
  · rw [e]; omega
  · rw [e]; omega
  · rw [e]; omega
  · rw [e]
    refine Nat.le_trans (goes_len_le _ _) ?_
    show (s.l.take (s.pos id) ++ [id] ++ s.l.drop (s.pos id)).length ≤ _
    simp only [List.length_append, List.length_take, List.length_drop, List.length_singleton]
    omega
end Go.Proofs.YtgfkgbampoocdaaGreatDoor
