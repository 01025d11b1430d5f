/- A region that draws its order and holds operations that act, walked with the world as it is: what reads is taken first and must read the same whatever comes later; what acts comes in the one order that the text leaves. General lemmas; no program in sight. -/
import Derived.Test.YtjcopbfonbbaiaaObj
namespace Go.Proofs.Ytjcopbfonbbaiaa
open Go.RowKit

@[go_sem] theorem later_cell_d {M : Nat → Prop} {W k : World} {b o : Nat} (hb : b < W.heap.size) (hm : ¬ M b) : (later M W.drew k).cell? ⟨b, o, none⟩ = W.cell? ⟨b, o, none⟩ := later_cell (W := W.drew) hb hm
@[go_sem] theorem later_frozen_d {M : Nat → Prop} {W k : World} {b o : Nat} (hb : b < W.heap.size) (hm : ¬ M b) : (later M W.drew k).frozen? ⟨b, o, none⟩ = W.frozen? ⟨b, o, none⟩ := later_frozen (W := W.drew) hb hm
@[go_sem] theorem later_cell_dn {M : Nat → Prop} {W k : World} {b o n : Nat} (hb : b < W.heap.size) (hm : ¬ M b) : (later M (W.drewN n) k).cell? ⟨b, o, none⟩ = W.cell? ⟨b, o, none⟩ := later_cell (W := W.drewN n) hb hm
@[go_sem] theorem later_frozen_dn {M : Nat → Prop} {W k : World} {b o n : Nat} (hb : b < W.heap.size) (hm : ¬ M b) : (later M (W.drewN n) k).frozen? ⟨b, o, none⟩ = W.frozen? ⟨b, o, none⟩ := later_frozen (W := W.drewN n) hb hm
section
variable {P : Program} {ops : Array Oper}

/-- an operation that acts -/
def goAt (P : Program) (M : Nat → Prop) (Q : Exit → Act → World → Prop) (ops : Array Oper) (o : Oper) (a : Act) (W : World) (next : Act → World → Prop) : Prop :=
  if Region.wanted o (yielded ops a.tmps) = true then
    ∀ K : Act → World → Prop, (∀ a' w', Kept M W w' → next a' w' → K a' w') → o.wp P a W K (NoPanic Q)
  else next (a.put o.dst undef) W

def wpGo (P : Program) (M : Nat → Prop) (Q : Exit → Act → World → Prop) (ops : Array Oper) : List (Nat × Bool) → Act → World → Prop
  | [], a, W => Q .normal a W
  | (i, false) :: r, a, W => qOp P ops (fun w => ∃ k, w = later M W k) i (fun a' => wpGo P M Q ops r a' W) a
  | (i, true) :: r, a, W => match ops[i]? with
    | none => False
    | some o => goAt P M Q ops o a W (fun a' w' => wpGo P M Q ops r a' w')

theorem wpGo_any {M : Nat → Prop} {Q : Exit → Act → World → Prop} (hsel : Region.noSelect ops = true) : ∀ (order : List (Nat × Bool)) (listed : Array Bool) (a : Act) (W : World) (fuel : Nat), order.length ≤ fuel → ordOk ops order listed = true →
    wpGo P M Q ops order a W → wpAnyH P .any ops (NoPanic Q) (Kept M W) fuel listed a W := by
  intro order
  induction order with
  | nil =>
    intro listed a W fuel _ hok h
    exact wpAnyH_done (by simpa [ordOk] using hok) (NoPanic.normal h) fuel
  | cons x r ih =>
    obtain ⟨i, act⟩ := x
    intro listed a W fuel hf hok h
    obtain ⟨fuel, rfl⟩ : ∃ f, fuel = f + 1 := ⟨fuel - 1, by simp at hf; omega⟩
    have hf' : r.length ≤ fuel := by simp at hf; omega
    cases act with
    | false =>
      simp only [ordOk, Bool.and_eq_true] at hok
      obtain ⟨⟨⟨h1, h2⟩, h3⟩, h4⟩ := hok
      cases ho : ops[i]? with
      | none => rw [ho] at h3; simp at h3
      | some o =>
        rw [ho] at h3
        simp only [wpGo, qOp, ho] at h
        have hQ : ∀ v, ∀ c (a : Act) w, NoPanic Q (.panic c) (a.put o.dst v) w → NoPanic Q (.panic c) a w := fun v c a w h => h
        by_cases hw : Region.wanted o (yielded ops a.tmps) = true
        · rw [if_pos hw] at h
          obtain ⟨v, hv, hn⟩ := h
          have hy : YieldsIf P ops (Kept M W) o v a := .inl ⟨hw, fun x hx => by
            have h5 := hv x ⟨x, (later_of hx).symm⟩
            unfold Oper.quietAt at h5
            generalize hr : (execOp a.eval o).run P x = res at h5
            cases res with
            | halt y w1 => exact h5.elim
            | ok n w1 =>
              obtain ⟨u, rfl⟩ := isVal_value h3 hr
              obtain ⟨rfl, rfl⟩ := h5
              rfl⟩
          exact wpAnyH_take ho hsel h1 h2 (hQ v) hy (Kept.refl _ _) (ih _ _ W fuel hf' h4 hn)
        · rw [if_neg hw] at h
          have hy : YieldsIf P ops (Kept M W) o undef a := .inr ⟨by simpa using hw, rfl⟩
          exact wpAnyH_take ho hsel h1 h2 (hQ undef) hy (Kept.refl _ _) (ih _ _ W fuel hf' h4 h)
    | true =>
      simp only [ordOk, Bool.and_eq_true, beq_iff_eq] at hok
      obtain ⟨h1, h4⟩ := hok
      simp only [wpGo] at h
      cases ho : ops[i]? with
      | none => rw [ho] at h; exact h.elim
      | some o =>
        rw [ho] at h
        simp only at h
        refine wpAnyH_all h1 (by simp) ?_
        intro j hj
        obtain rfl : j = i := by simpa using hj
        unfold wpOp
        simp only [ho]
        unfold goAt at h
        by_cases hw : Region.wanted o (yielded ops a.tmps) = true
        · rw [if_pos hw] at h ⊢
          refine .inl (h _ fun a' w' hk' hn => ?_)
          exact ⟨hk', wpAnyH_mono (fun x hx => hk'.trans hx) fuel _ a' w' (ih _ _ w' fuel hf' h4 hn)⟩
        · rw [if_neg hw] at h ⊢
          exact ⟨Kept.refl _ _, ih _ _ W fuel hf' h4 h⟩

/-- THE REGION -/
theorem wp_run {M : Nat → Prop} {Q : Exit → Act → World → Prop} {id : Nat} {a : Act} {W : World} (order : List (Nat × Bool)) (hm : P.follows .mixedOrders = true) (hok : (Region.noSelect ops && ordOk ops order (Array.replicate ops.size false) && decide (order.length ≤ ops.size)) = true)
    (h : wpGo P M Q ops order a W.drew) : (Code.region id ops true).wp P Q a W := by
  simp only [Bool.and_eq_true, decide_eq_true_eq] at hok
  exact wp_region_noPanic (wp_region_held hm (wpGo_any hok.1.1 order _ a W.drew _ hok.2 hok.1.2 h))

theorem run_quiet {M : Nat → Prop} {Q : Exit → Act → World → Prop} {l : List Oper} : ∀ (m : List Bool) (n : Nat) (pre : List Oper), pre.length = n → ops = (pre ++ l).toArray → ∀ (r : List (Nat × Bool)) (a : Act) (W : World),
    wpQuiet P ops (fun w => ∃ k, w = later M W k) (fun a' => wpGo P M Q ops r a' W) (pickAt m l) a → wpGo P M Q ops ((idxAt m n).map (fun i => (i, false)) ++ r) a W := by
  induction l with
  | nil =>
    intro m n pre hpre hops r a W h
    have h1 : pickAt m ([] : List Oper) = [] := by cases m with | nil => rfl | cons b m => cases b <;> rfl
    rw [h1] at h
    have key : ∀ (m : List Bool) (n : Nat), pre.length ≤ n → wpGo P M Q ops r a W → wpGo P M Q ops ((idxAt m n).map (fun i => (i, false)) ++ r) a W := by
      intro m
      induction m with
      | nil => intro n _ h; exact h
      | cons b m ihm =>
        intro n hn h
        cases b with
        | false => exact ihm (n + 1) (by omega) h
        | true =>
          show qOp P ops _ n _ a
          have ho : ops[n]? = none := by rw [hops]; simp; omega
          unfold qOp
          simp only [ho]
          exact ihm (n + 1) (by omega) h
    exact key m n (by omega) h
  | cons o l ih =>
    intro m n pre hpre hops r a W h
    have hnext : ops = ((pre ++ [o]) ++ l).toArray := by rw [hops]; simp
    cases m with
    | nil => exact h
    | cons b m =>
      cases b with
      | false => exact ih m (n + 1) (pre ++ [o]) (by simp [hpre]) hnext r a W h
      | true =>
        have ho : ops[n]? = some o := by rw [hops]; simp [← hpre]
        show qOp P ops _ n _ a
        unfold qOp
        simp only [ho]
        have h2 : if Region.wanted o (yielded ops a.tmps) = true then o.quiet P a (fun w => ∃ k, w = later M W k) (wpQuiet P ops (fun w => ∃ k, w = later M W k) (fun a' => wpGo P M Q ops r a' W) (pickAt m l)) else wpQuiet P ops (fun w => ∃ k, w = later M W k) (fun a' => wpGo P M Q ops r a' W) (pickAt m l) (a.put o.dst undef) := h
        split
        · rename_i hw
          rw [if_pos hw] at h2
          exact Oper.quiet_mono (fun a' h3 => ih m (n + 1) (pre ++ [o]) (by simp [hpre]) hnext r a' W h3) h2
        · rename_i hw
          rw [if_neg hw] at h2
          exact ih m (n + 1) (pre ++ [o]) (by simp [hpre]) hnext r _ W h2

/-- one stage -/
theorem run_stage {M : Nat → Prop} {Q : Exit → Act → World → Prop} {l : List Oper} {m : List Bool} {e : Nat} {r : List (List Bool × Nat)} {last : List Bool} {a : Act} {W : World} {o : Oper} (ho : l[e]? = some o)
    (h : wpQuiet P l.toArray (fun w => ∃ k, w = later M W k) (fun a' => goAt P M Q l.toArray o a' W (fun a'' w' => wpGo P M Q l.toArray (stages r last) a'' w')) (pickAt m l) a) : wpGo P M Q l.toArray (stages ((m, e) :: r) last) a W := by
  refine run_quiet m 0 [] rfl rfl _ a W (ord_stage.wpQuiet_imp h fun a' h' => ?_)
  show match l.toArray[e]? with | none => False | some o => _
  have : l.toArray[e]? = some o := by simpa using ho
  rw [this]; exact h'
/-- the last stage -/
theorem run_last {M : Nat → Prop} {Q : Exit → Act → World → Prop} {l : List Oper} {last : List Bool} {a : Act} {W : World}
    (h : wpQuiet P l.toArray (fun w => ∃ k, w = later M W k) (fun a' => Q .normal a' W) (pickAt last l) a) : wpGo P M Q l.toArray (stages [] last) a W := by
  have := run_quiet (M := M) (Q := Q) last 0 [] rfl (ops := l.toArray) (l := l) rfl [] a W h
  simpa [stages] using this

theorem run_want {M : Nat → Prop} {Q : Exit → Act → World → Prop} {o : Oper} {a : Act} {W : World} {next : Act → World → Prop} (hw : Region.wanted o (yielded ops a.tmps) = true)
    (h : ∀ K : Act → World → Prop, (∀ a' w', Kept M W w' → next a' w' → K a' w') → o.wp P a W K (NoPanic Q)) : goAt P M Q ops o a W next := by
  unfold goAt; rw [if_pos hw]; exact h
theorem run_skip {M : Nat → Prop} {Q : Exit → Act → World → Prop} {o : Oper} {a : Act} {W : World} {next : Act → World → Prop} (hw : Region.wanted o (yielded ops a.tmps) = false)
    (h : next (a.put o.dst undef) W) : goAt P M Q ops o a W next := by
  unfold goAt; rw [if_neg (by rw [hw]; simp)]; exact h
end
end Go.Proofs.Ytjcopbfonbbaiaa
