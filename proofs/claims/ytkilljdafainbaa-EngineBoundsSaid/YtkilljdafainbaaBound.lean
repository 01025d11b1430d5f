/- The contract of engine.Bound (chapter 21). -/
import Derived.Test.YtkilljdafainbaaCfg
namespace Go.Proofs.Ytkilljdafainbaa
open Go.RowKit

def turnsI (m : Int) (l : List Int) : Int := (l.map fun t => count t m).foldl addI 2
def boundI (c : Cfg) (l : List Int) (wait : Int) : Int := if okB c = true then addI (mulI (4 * c.cap + 400) (turnsI c.mtu l)) (mulI 40 wait) else 0
def BoundPost (c : Cfg) (l : List Int) (wait : Int) (w : World) (e : Ending) (w' : World) : Prop := e = .returned (.int .i64 (boundI c l wait)) ∧ Below w.heap.size w w'
theorem turns_snoc (m : Int) (l : List Int) (k : Nat) (h : k < l.length) : turnsI m (l.take (k + 1)) = addI (turnsI m (l.take k)) (count l[k] m) := by
  unfold turnsI
  rw [List.take_succ_eq_append_getElem h, List.map_append, List.foldl_append]; rfl
theorem okB_cap (c : Cfg) (h : okB c = true) : 20 ≤ c.mtu ∧ c.mtu ≤ 1500 ∧ 10 ≤ c.cap ∧ c.cap ≤ 1000000 := by
  simp only [okB, Bool.and_eq_true] at h
  obtain ⟨⟨⟨⟨⟨⟨⟨⟨⟨⟨⟨_, _⟩, h1⟩, _⟩, _⟩, h2⟩, h3⟩, _⟩, _⟩, _⟩, _⟩, _⟩ := h
  have := inB_of h1
  have := inB_of h2
  have := inB_of h3
  omega
set_option maxRecDepth 100000 in
set_option maxHeartbeats 1000000 in
theorem bound_any (c : Cfg) (l : List Int) (wait : Int) (v : Value) (w : World) (h : Rd w 1 v l.length (l.map (Value.int .i64))) : Calls Try.prog 12 #[.agg c.cells, v, .int .i64 wait] w (BoundPost c l wait w) := by
  have hm := h.maxLen
  obtain ⟨v, cp, rfl, h1, h2⟩ := h.form
  have HR := Lib.hid h
  clear h
  have hck := check_any c
  have hpc := pieces_any c
  have HCK := Lib.hid hck
  have HPC := Lib.hid hpc
  clear hck hpc
  have hokc : okB c = true ∨ okB c = false := by cases okB c <;> simp
  rcases hokc with hok | hok
  · have hchk : chkI c = 0 := by unfold chkI; rw [if_pos hok]
    obtain ⟨b1, b2, b3, b4⟩ := okB_cap c hok
    have hfin : ∀ w', Below w.heap.size w w' → BoundPost c l wait w (.returned (.int .i64 (addI (mulI (4 * c.cap + 400) (turnsI c.mtu l)) (mulI 40 wait)))) w' := fun w' hb => ⟨by unfold boundI; rw [if_pos hok], hb⟩
    have HF := Lib.hid hfin
    have HC := Lib.hid hchk
    clear hok hfin hchk
    have hcells : ∃ cs, cs = c.cells := ⟨_, rfl⟩
    unfold Cfg.cells at HCK HPC ⊢
    go_enter Try.func12, Try.ntmps12
    go_wp2_with (go_at_call 6; refine (HCK.out _).mono ?_; rintro e w1 ⟨rfl, hb1⟩; rw [HC.out])
    have hx := below_heap hb1 (by simp) (heap_new w _)
    have hB : Below w.heap.size w w1 := ((Below.refl _ _).alloc (Nat.le_refl _) _).trans (hb1.mono (by simp))
    have HX := Lib.hid hx
    have HB := Lib.hid hB
    clear hb1 hx hB
    go_loopw [7, 9, 15] (fun n _ i wr => ∃ k : Nat, i = .int .i64 k ∧ k ≤ l.length ∧ n = .int .i64 (turnsI c.mtu (l.take k)) ∧ Below w1.heap.size w1 wr) (fun _ _ i _ => l.length - (intOf i).toNat)
    case atStart => exact ⟨0, rfl, by omega, rfl, Below.refl _ _⟩
    case round =>
      obtain ⟨k, rfl, hk, rfl, hbel⟩ := hrel
      have hx := heap_lt HX.out
      obtain ⟨lx, cx, _⟩ := blk (below_heap hbel hx HX.out)
      by_cases hlt : k < l.length
      · have hrd := (HR.out.below HB.out).below hbel
        obtain ⟨b, o, rfl, hcell⟩ := hrd.at k hlt
        have hsn := Lib.hid (turns_snoc c.mtu l k hlt)
        have HBEL := Lib.hid hbel
        clear hrd hbel
        go_wp2_with (first
          | (go_at_call 7; refine (HPC.out _ _).mono ?_; rintro e w2 ⟨rfl, hb2⟩)
          | (go_at_call 18; refine (add_any _ _ _).mono ?_; rintro e w' ⟨rfl, rfl⟩))
        go_roundw
        case rel => exact ⟨k + 1, by go_num, by omega, by rw [hsn.out], HBEL.out.trans (hb2.mono HBEL.out.size)⟩
        case measure => simp [intOf]; omega
      · have hBB : Below w.heap.size w wr := HB.out.trans (hbel.mono HB.out.size)
        have hall : turnsI c.mtu (l.take k) = turnsI c.mtu l := by rw [List.take_of_length_le (by omega)]
        have HBB := Lib.hid hBB
        have HA := Lib.hid hall
        clear hbel hBB hall
        go_wp2_with (first
          | (go_at_call 19; refine (mul_any _ _ _).mono ?_; rintro e w' ⟨rfl, rfl⟩)
          | (go_at_call 18; refine (add_any _ _ _).mono ?_; rintro e w' ⟨rfl, rfl⟩))
        go_ret
        rw [← HA.out] at HF
        exact HF.out _ HBB.out
  · have hchk : chkI c = 1 := by unfold chkI; rw [hok]; rfl
    have hfin : ∀ w', Below w.heap.size w w' → BoundPost c l wait w (.returned (.int .i64 0)) w' := fun w' hb => ⟨by unfold boundI; rw [hok]; rfl, hb⟩
    have HF := Lib.hid hfin
    have HC := Lib.hid hchk
    clear hok hfin hchk
    unfold Cfg.cells at HCK HPC ⊢
    go_enter Try.func12, Try.ntmps12
    go_wp2_with (go_at_call 6; refine (HCK.out _).mono ?_; rintro e w1 ⟨rfl, hb1⟩; rw [HC.out])
    go_ret
    exact HF.out _ (((Below.refl _ _).alloc (Nat.le_refl _) _).trans (hb1.mono (by simp)))
end Go.Proofs.Ytkilljdafainbaa
