/- A region that draws its order and holds operations that act, walked with the world as it is: what reads is taken first and must read the same whatever comes later; what acts comes in the one order that the text leaves. General lemmas; no program in sight. -/
import Derived.Test.YtajhndakkaniaaaGreatDoorObj
namespace Go.Proofs.YtajhndakkaniaaaGreatDoor
open Go.RowKit

@[go_sem] theorem later_cell_d {M : Nat → Prop} {W k : World} {b o : Nat} (hb : b < W.heap.size) (hm : ¬ M b) : (later M W.drew k).cell? ⟨b, o, none⟩ = W.cell? ⟨b, o, none⟩ := later_cell (W := W.drew) hb hm
@[go_sem] theorem later_frozen_d {M : Nat → Prop} {W k : World} {b o : Nat} (hb : b < W.heap.size) (hm : ¬ M b) : (later M W.drew k).frozen? ⟨b, o, none⟩ = W.frozen? ⟨b, o, none⟩ := later_frozen (W := W.drew) hb hm
@[go_sem] theorem later_cell_dn {M : Nat → Prop} {W k : World} {b o n : Nat} (hb : b < W.heap.size) (hm : ¬ M b) : (later M (W.drewN n) k).cell? ⟨b, o, none⟩ = W.cell? ⟨b, o, none⟩ := later_cell (W := W.drewN n) hb hm
@[go_sem] theorem later_frozen_dn {M : Nat → Prop} {W k : World} {b o n : Nat} (hb : b < W.heap.size) (hm : ¬ M b) : (later M (W.drewN n) k).frozen? ⟨b, o, none⟩ = W.frozen? ⟨b, o, none⟩ := later_frozen (W := W.drewN n) hb hm
section
variable {P : Program} {ops : Array Oper}

/-- an operation that acts -/
def goAt (P : Program) (M : Nat → Prop) (Q : Exit → Act → World → Prop) (ops : Array Oper) (o : Oper) (a : Act) (W : World) (next : Act → World → Prop) : Prop :=
  if Region.wanted o (yielded ops a.tmps) = true then
    ∀ K : Act → World → Prop, (∀ a' w', Kept M W w' → next a' w' → K a' w') → o.wp P a W K (NoPanic Q)
  else next (a.put o.dst undef) W

def wpGo (P : Program) (M : Nat → Prop) (Q : Exit → Act → World → Prop) (ops : Array Oper) : List (Nat × Bool) → Act → World → Prop
  | [], a, W => Q .normal a W
  | (i, false) :: r, a, W => qOp P ops (fun w => ∃ k, w = later M W k) i (fun a' => wpGo P M Q ops r a' W) a
  | (i, true) :: r, a, W => match ops[i]? with
    | none => False
    | some o => goAt P M Q ops o a W (fun a' w' => wpGo P M Q ops r a' w')

theorem wpGo_any {M : Nat → Prop} {Q : Exit → Act → World → Prop} (hsel : Region.noSelect ops = true) : ∀ (order : List (Nat × Bool)) (listed : Array Bool) (a : Act) (W : World) (fuel : Nat), order.length ≤ fuel → ordOk ops order listed = true →
    wpGo P M Q ops order a W → wpAnyH P .any ops (NoPanic Q) (Kept M W) fuel listed a W := by
  intro order
  induction order with
  | nil =>
    intro listed a W fuel _ hok h
    exact wpAnyH_done (by simpa [ordOk] using hok) (NoPanic.normal h) fuel
  | cons x r ih =>
    obtain ⟨i, act⟩ := x
    intro listed a W fuel hf hok h
    obtain ⟨fuel, rfl⟩ : ∃ f, fuel = f + 1 := ⟨fuel - 1, by simp at hf; omega⟩
    have hf' : r.length ≤ fuel := by simp at hf; omega
    cases act with
    | false =>
      simp only [ordOk, Bool.and_eq_true] at hok
      obtain ⟨⟨⟨h1, h2⟩, h3⟩, h4⟩ := hok
      cases ho : ops[i]? with
      | none => rw [ho] at h3; simp at h3
      | some o =>
        rw [ho] at h3
        simp only [wpGo, qOp, ho] at h
        have hQ : ∀ v, ∀ c (a : Act) w, NoPanic Q (.panic c) (a.put o.dst v) w → NoPanic Q (.panic c) a w := fun v c a w h => h
        by_cases hw : Region.wanted o (yielded ops a.tmps) = true
        · rw [if_pos hw] at h
          obtain ⟨v, hv, hn⟩ := h
          have hy : YieldsIf P ops (Kept M W) o v a := .inl ⟨hw, fun x hx => by
            have h5 := hv x ⟨x, (later_of hx).symm⟩
            unfold Oper.quietAt at h5
            generalize hr : (execOp a.eval o).run P x = res at h5
            cases res with
            | halt y w1 => exact h5.elim
            | ok n w1 =>
              obtain ⟨u, rfl⟩ := isVal_value h3 hr
              obtain ⟨rfl, rfl⟩ := h5
              rfl⟩
          exact wpAnyH_take ho hsel h1 h2 (hQ v) hy (Kept.refl _ _) (ih _ _ W fuel hf' h4 hn)
        · rw [if_neg hw] at h
          have hy : YieldsIf P ops (Kept M W) o undef a := .inr ⟨by simpa using hw, rfl⟩
          exact wpAnyH_take ho hsel h1 h2 (hQ undef) hy (Kept.refl _ _) (ih _ _ W fuel hf' h4 h)
    | true =>
      simp only [ordOk, Bool.and_eq_true, beq_iff_eq] at hok
      obtain ⟨h1, h4⟩ := hok
      simp only [wpGo] at h
      cases ho : ops[i]? with
      | none => rw [ho] at h; exact h.elim
      | some o =>
        rw [ho] at h
        simp only at h
        refine wpAnyH_all h1 (by simp) ?_
        intro j hj
        obtain rfl : j = i := by simpa using hj
        unfold wpOp
        simp only [ho]
        unfold goAt at h
        by_cases hw : Region.wanted o (yielded ops a.tmps) = true
        · rw [if_pos hw] at h ⊢
          refine .inl (h _ fun a' w' hk' hn => ?_)
          exact ⟨hk', wpAnyH_mono (fun x hx => hk'.trans hx) fuel _ a' w' (ih _ _ w' fuel hf' h4 hn)⟩
        · rw [if_neg hw] at h ⊢
          exact ⟨Kept.refl _ _, ih _ _ W fuel hf' h4 h⟩

/-- THE REGION -/
theorem wp_run {M : Nat → Prop} {Q : Exit → Act → World → Prop} {id : Nat} {a : Act} {W : World} (order : List (Nat × Bool)) (hm : P.follows .mixedOrders = true) (hok : (Region.noSelect ops && ordOk ops order (Array.replicate ops.size false) && decide (order.length ≤ ops.size)) = true)
    (h : wpGo P M Q ops order a W.drew) : (Code.region id ops true).wp P Q a W := by
  simp only [Bool.and_eq_true, decide_eq_true_eq] at hok
  exact wp_region_noPanic (wp_region_held hm (wpGo_any hok.1.1 order _ a W.drew _ hok.2 hok.1.2 h))

theorem run_quiet {M : Nat → Prop} {Q : Exit → Act → World → Prop} {l : List Oper} : ∀ (m : List Bool) (n : Nat) (pre : List Oper), pre.length = n → ops = (pre ++ l).toArray → ∀ (r : List (Nat × Bool)) (a : Act) (W : World),
    wpQuiet P ops (fun w => ∃ k, w = later M W k) (fun a' => wpGo P M Q ops r a' W) (pickAt m l) a → wpGo P M Q ops ((idxAt m n).map (fun i => (i, false)) ++ r) a W := by
  induction l with
  | nil =>
    intro m n pre hpre hops r a W h
    have h1 : pickAt m ([] : List Oper) = [] := by cases m with | nil => rfl | cons b m => cases b <;> rfl
    rw [h1] at h
    have key : ∀ (m : List Bool) (n : Nat), pre.length ≤ n → wpGo P M Q ops r a W → wpGo P M Q ops ((idxAt m n).map (fun i => (i, false)) ++ r) a W := by
      intro m
      induction m with
      | nil => intro n _ h; exact h
      | cons b m ihm =>
        intro n hn h
        cases b with
        | false => exact ihm (n + 1) (by omega) h
        | true =>
          show qOp P ops _ n _ a
          have ho : ops[n]? = none := by rw [hops]; simp; omega
          unfold qOp
          simp only [ho]
          exact ihm (n + 1) (by omega) h
    exact key m n (by omega) h
  | cons o l ih =>
    intro m n pre hpre hops r a W h
    have hnext : ops = ((pre ++ [o]) ++ l).toArray := by rw [hops]; simp
    cases m with
    | nil => exact h
    | cons b m =>
      cases b with
      | false => exact ih m (n + 1) (pre ++ [o]) (by simp [hpre]) hnext r a W h
      | true =>
        have ho : ops[n]? = some o := by rw [hops]; simp [← hpre]
        show qOp P ops _ n _ a
        unfold qOp
        simp only [ho]
        have h2 : if Region.wanted o (yielded ops a.tmps) = true then o.quiet P a (fun w => ∃ k, w = later M W k) (wpQuiet P ops (fun w => ∃ k, w = later M W k) (fun a' => wpGo P M Q ops r a' W) (pickAt m l)) else wpQuiet P ops (fun w => ∃ k, w = later M W k) (fun a' => wpGo P M Q ops r a' W) (pickAt m l) (a.put o.dst undef) := h
        split
        · rename_i hw
          rw [if_pos hw] at h2
          exact Oper.quiet_mono (fun a' h3 => ih m (n + 1) (pre ++ [o]) (by simp [hpre]) hnext r a' W h3) h2
        · rename_i hw
          rw [if_neg hw] at h2
          exact ih m (n + 1) (pre ++ [o]) (by simp [hpre]) hnext r _ W h2

/-- one stage -/
theorem run_stage {M : Nat → Prop} {Q : Exit → Act → World → Prop} {l : List Oper} {m : List Bool} {e : Nat} {r : List (List Bool × Nat)} {last : List Bool} {a : Act} {W : World} {o : Oper} (ho : l[e]? = some o)
    (h : wpQuiet P l.toArray (fun w => ∃ k, w = later M W k) (fun a' => goAt P M Q l.toArray o a' W (fun a'' w' => wpGo P M Q l.toArray (stages r last) a'' w')) (pickAt m l) a) : wpGo P M Q l.toArray (stages ((m, e) :: r) last) a W := by
  refine run_quiet m 0 [] rfl rfl _ a W (ord_stage.wpQuiet_imp h fun a' h' => ?_)
  show match l.toArray[e]? with | none => False | some o => _
  have : l.toArray[e]? = some o := by simpa using ho
  rw [this]; exact h'
/-- the last stage -/
theorem run_last {M : Nat → Prop} {Q : Exit → Act → World → Prop} {l : List Oper} {last : List Bool} {a : Act} {W : World}
    (h : wpQuiet P l.toArray (fun w => ∃ k, w = later M W k) (fun a' => Q .normal a' W) (pickAt last l) a) : wpGo P M Q l.toArray (stages [] last) a W := by
  have := run_quiet (M := M) (Q := Q) last 0 [] rfl (ops := l.toArray) (l := l) rfl [] a W h
  simpa [stages] using this

theorem run_want {M : Nat → Prop} {Q : Exit → Act → World → Prop} {o : Oper} {a : Act} {W : World} {next : Act → World → Prop} (hw : Region.wanted o (yielded ops a.tmps) = true)
    (h : ∀ K : Act → World → Prop, (∀ a' w', Kept M W w' → next a' w' → K a' w') → o.wp P a W K (NoPanic Q)) : goAt P M Q ops o a W next := by
  unfold goAt; rw [if_pos hw]; exact h
theorem run_skip {M : Nat → Prop} {Q : Exit → Act → World → Prop} {o : Oper} {a : Act} {W : World} {next : Act → World → Prop} (hw : Region.wanted o (yielded ops a.tmps) = false)
    (h : next (a.put o.dst undef) W) : goAt P M Q ops o a W next := by
  unfold goAt; rw [if_neg (by rw [hw]; simp)]; exact h

/-! ### the same, stage by stage, where several operations that act may come up -/
/-- what has come up, or is taken first, is marked in 'listed' -/
def Stands (P : Program) (M : Nat → Prop) (Q : Exit → Act → World → Prop) (l : List Oper) (fuel : Nat) (listed : Array Bool) (a : Act) (W : World) : Prop := wpAnyH P .any l.toArray (NoPanic Q) (Kept M W) fuel listed a W
def mark (m : List Bool) (listed : Array Bool) : Array Bool := (idxAt m 0).foldl (fun s i => s.setIfInBounds i true) listed
def quietOk (ops : Array Oper) : List Nat → Array Bool → Bool
  | [], _ => true
  | i :: r, listed => Region.free .any ops listed i && (Region.ready .any ops listed).contains i && (match ops[i]? with | some o => isVal o | none => false) && quietOk ops r (listed.setIfInBounds i true)

theorem stands_q {M : Nat → Prop} {Q : Exit → Act → World → Prop} {l : List Oper} (hsel : Region.noSelect l.toArray = true) : ∀ (is : List Nat) (fuel : Nat) (listed : Array Bool) (a : Act) (W : World), is.length ≤ fuel → quietOk l.toArray is listed = true →
    (is.foldr (fun i k a => qOp P l.toArray (fun w => ∃ k, w = later M W k) i k a) (fun a' => Stands P M Q l (fuel - is.length) (is.foldl (fun s i => s.setIfInBounds i true) listed) a' W)) a → Stands P M Q l fuel listed a W := by
  intro is
  induction is with
  | nil => intro fuel listed a W _ _ h; exact h
  | cons i is ih =>
    intro fuel listed a W hf hok h
    obtain ⟨fuel, rfl⟩ : ∃ f, fuel = f + 1 := ⟨fuel - 1, by simp at hf; omega⟩
    simp only [quietOk, Bool.and_eq_true] at hok
    obtain ⟨⟨⟨h1, h2⟩, h3⟩, h4⟩ := hok
    have hf' : is.length ≤ fuel := by simp at hf; omega
    have hfe : fuel + 1 - (i :: is).length = fuel - is.length := by rw [List.length_cons]; omega
    rw [hfe, List.foldr_cons, List.foldl_cons] at h
    cases ho : l.toArray[i]? with
    | none => rw [ho] at h3; simp at h3
    | some o =>
      rw [ho] at h3
      simp only [qOp, ho] at h
      have hQ : ∀ v, ∀ c (a : Act) w, NoPanic Q (.panic c) (a.put o.dst v) w → NoPanic Q (.panic c) a w := fun v c a w h => h
      by_cases hw : Region.wanted o (yielded l.toArray a.tmps) = true
      · rw [if_pos hw] at h
        obtain ⟨v, hv, hn⟩ := h
        have hy : YieldsIf P l.toArray (Kept M W) o v a := .inl ⟨hw, fun x hx => by
          have h5 := hv x ⟨x, (later_of hx).symm⟩
          unfold Oper.quietAt at h5
          generalize hr : (execOp a.eval o).run P x = res at h5
          cases res with
          | halt y w1 => exact h5.elim
          | ok n w1 =>
            obtain ⟨u, rfl⟩ := isVal_value h3 hr
            obtain ⟨rfl, rfl⟩ := h5
            rfl⟩
        exact wpAnyH_take ho hsel h1 h2 (hQ v) hy (Kept.refl _ _) (ih fuel _ _ W hf' h4 hn)
      · rw [if_neg hw] at h
        have hy : YieldsIf P l.toArray (Kept M W) o undef a := .inr ⟨by simpa using hw, rfl⟩
        exact wpAnyH_take ho hsel h1 h2 (hQ undef) hy (Kept.refl _ _) (ih fuel _ _ W hf' h4 h)

theorem quiet_fold {l : List Oper} {C : World → Prop} {E : Act → Prop} : ∀ (l' : List Oper) (m : List Bool) (n : Nat) (pre : List Oper), pre.length = n → l = pre ++ l' → ∀ a : Act,
    wpQuiet P l.toArray C E (pickAt m l') a → ((idxAt m n).foldr (fun i k a => qOp P l.toArray C i k a) E) a := by
  intro l'
  induction l' with
  | nil =>
    intro m n pre hpre hl a h
    have h1 : pickAt m ([] : List Oper) = [] := by cases m with | nil => rfl | cons b m => cases b <;> rfl
    rw [h1] at h
    have key : ∀ (m : List Bool) (n : Nat), pre.length ≤ n → E a → ((idxAt m n).foldr (fun i k a => qOp P l.toArray C i k a) E) a := by
      intro m
      induction m with
      | nil => intro n _ h; exact h
      | cons b m ihm =>
        intro n hn h
        cases b with
        | false => exact ihm (n + 1) (by omega) h
        | true =>
          show qOp P l.toArray C n _ a
          have ho : l.toArray[n]? = none := by rw [hl]; simp; omega
          unfold qOp
          simp only [ho]
          exact ihm (n + 1) (by omega) h
    exact key m n (by omega) h
  | cons o l' ih =>
    intro m n pre hpre hl a h
    have hnext : l = (pre ++ [o]) ++ l' := by rw [hl]; simp
    cases m with
    | nil => exact h
    | cons b m =>
      cases b with
      | false => exact ih m (n + 1) (pre ++ [o]) (by simp [hpre]) hnext a h
      | true =>
        have ho : l.toArray[n]? = some o := by rw [hl]; simp [← hpre]
        show qOp P l.toArray C n _ a
        unfold qOp
        simp only [ho]
        have h2 : if Region.wanted o (yielded l.toArray a.tmps) = true then o.quiet P a C (wpQuiet P l.toArray C E (pickAt m l')) else wpQuiet P l.toArray C E (pickAt m l') (a.put o.dst undef) := h
        split
        · rename_i hw
          rw [if_pos hw] at h2
          exact Oper.quiet_mono (fun a' h3 => ih m (n + 1) (pre ++ [o]) (by simp [hpre]) hnext a' h3) h2
        · rename_i hw
          rw [if_neg hw] at h2
          exact ih m (n + 1) (pre ++ [o]) (by simp [hpre]) hnext _ h2

/-- what reads -/
theorem st_quiet {M : Nat → Prop} {Q : Exit → Act → World → Prop} {l : List Oper} {fuel : Nat} {listed : Array Bool} {a : Act} {W : World} (m : List Bool)
    (hok : (Region.noSelect l.toArray && quietOk l.toArray (idxAt m 0) listed && decide ((idxAt m 0).length ≤ fuel)) = true)
    (h : wpQuiet P l.toArray (fun w => ∃ k, w = later M W k) (fun a' => Stands P M Q l (fuel - (idxAt m 0).length) (mark m listed) a' W) (pickAt m l) a) : Stands P M Q l fuel listed a W := by
  simp only [Bool.and_eq_true, decide_eq_true_eq] at hok
  exact stands_q hok.1.1 (idxAt m 0) fuel listed a W hok.2 hok.1.2 (quiet_fold l m 0 [] rfl rfl a h)
theorem goAt_op {M : Nat → Prop} {Q : Exit → Act → World → Prop} {l : List Oper} {i : Nat} {o : Oper} (ho : l[i]? = some o) {fuel : Nat} {listed : Array Bool} {a : Act} {W : World}
    (h : goAt P M Q l.toArray o a W (fun a' w' => Stands P M Q l fuel (listed.setIfInBounds i true) a' w')) : wpOp P l.toArray (NoPanic Q) i (fun a' w' => Kept M W w' ∧ wpAnyH P .any l.toArray (NoPanic Q) (Kept M W) fuel (listed.setIfInBounds i true) a' w') a W := by
  have ho' : l.toArray[i]? = some o := by simpa using ho
  unfold wpOp
  simp only [ho']
  unfold goAt at h
  by_cases hw : Region.wanted o (yielded l.toArray a.tmps) = true
  · rw [if_pos hw] at h ⊢
    exact .inl (h _ fun a' w' hk' hn => ⟨hk', wpAnyH_mono (fun x hx => hk'.trans hx) fuel _ a' w' hn⟩)
  · rw [if_neg hw] at h ⊢
    exact ⟨Kept.refl _ _, h⟩
/-- the one that acts -/
theorem st_act {M : Nat → Prop} {Q : Exit → Act → World → Prop} {l : List Oper} {fuel : Nat} {listed : Array Bool} {a : Act} {W : World} (i : Nat) {o : Oper} (ho : l[i]? = some o)
    (hok : (Region.ready .any l.toArray listed == [i] && decide (0 < fuel)) = true) (h : goAt P M Q l.toArray o a W (fun a' w' => Stands P M Q l (fuel - 1) (listed.setIfInBounds i true) a' w')) : Stands P M Q l fuel listed a W := by
  simp only [Bool.and_eq_true, beq_iff_eq, decide_eq_true_eq] at hok
  obtain ⟨fuel, rfl⟩ : ∃ f, fuel = f + 1 := ⟨fuel - 1, by omega⟩
  refine wpAnyH_all hok.1 (by simp) fun j hj => ?_
  obtain rfl : j = i := by simpa using hj
  exact goAt_op ho h
/-- either of two -/
theorem st_act2 {M : Nat → Prop} {Q : Exit → Act → World → Prop} {l : List Oper} {fuel : Nat} {listed : Array Bool} {a : Act} {W : World} (i j : Nat) {o p : Oper} (ho : l[i]? = some o) (hp : l[j]? = some p)
    (hok : (Region.ready .any l.toArray listed == [i, j] && decide (0 < fuel)) = true) (h1 : goAt P M Q l.toArray o a W (fun a' w' => Stands P M Q l (fuel - 1) (listed.setIfInBounds i true) a' w'))
    (h2 : goAt P M Q l.toArray p a W (fun a' w' => Stands P M Q l (fuel - 1) (listed.setIfInBounds j true) a' w')) : Stands P M Q l fuel listed a W := by
  simp only [Bool.and_eq_true, beq_iff_eq, decide_eq_true_eq] at hok
  obtain ⟨fuel, rfl⟩ : ∃ f, fuel = f + 1 := ⟨fuel - 1, by omega⟩
  refine wpAnyH_all hok.1 (by simp) fun k hk => ?_
  have hk' : k = i ∨ k = j := by simpa using hk
  rcases hk' with rfl | rfl
  · exact goAt_op ho h1
  · exact goAt_op hp h2
/-- from here on less may change -/
theorem st_less {M M' : Nat → Prop} {Q : Exit → Act → World → Prop} {l : List Oper} {fuel : Nat} {listed : Array Bool} {a : Act} {W : World} (hM : ∀ b, M' b → M b) (h : Stands P M' Q l fuel listed a W) : Stands P M Q l fuel listed a W :=
  wpAnyH_mono (fun _ hk => hk.mono fun b _ hb => hM b hb) fuel listed a W h
/-- all has come up -/
theorem st_done {M : Nat → Prop} {Q : Exit → Act → World → Prop} {l : List Oper} {fuel : Nat} {listed : Array Bool} {a : Act} {W : World} (hok : (Region.ready .any l.toArray listed).isEmpty = true) (h : Q .normal a W) : Stands P M Q l fuel listed a W :=
  wpAnyH_done (by simpa using hok) (NoPanic.normal h) fuel
/-- THE REGION -/
theorem wp_stands {M : Nat → Prop} {Q : Exit → Act → World → Prop} {id : Nat} {a : Act} {W : World} {l : List Oper} (hm : P.follows .mixedOrders = true)
    (h : Stands P M Q l l.length (Array.replicate l.length false) a W.drew) : (Code.region id l.toArray true).wp P Q a W :=
  wp_region_noPanic (wp_region_held hm h)
end

def Since (n : Nat) : Nat → Prop := fun b => n ≤ b
theorem not_since {n b : Nat} (h : b < n) : ¬ Since n b := fun hh => by have : n ≤ b := hh; omega
theorem Kept.of_grown {M : Nat → Prop} {w w' : World} {row : Option Nat} (h : w.grownBy w' row) (hM : ∀ b, row = some b → M b) : Kept M w w' :=
  ⟨h.os, h.tape, h.output, h.size, fun b hb hn => h.block b hb fun he => hn (hM b he.symm)⟩
theorem Kept.since {n : Nat} {w w' : World} (h : Kept (Since n) w w') (hn : n ≤ w.heap.size) : Below n w w' := h.belowAt hn fun _ hb => hb
/-- append from whatever source to a row of the call's own, as one operation -/
theorem wp_appS {P : Program} {o : Oper} {a : Act} {w : World} {K : Act → World → Prop} {Q : Exit → Act → World → Prop} (s x : Operand) (t : TypeId)
    (ho : o.op = .call { callee := .builtin .append, args := #[s, x], argTypes := #[t, t] }) {e : TypeId} {z : Value} {size bytes : Nat}
    (hinfo : (P.info? e).map (fun i => (i.zero, i.size, i.bytes)) = some (some z, size, bytes)) (ht : P.underlying t = some (.slice e))
    (hzs : z.cells.size = size) (hsz : 0 < size ∧ 0 < bytes) {base : Nat} {v : Value} {n : Nat} {xs : List Value} (hown : w.ownsRow base e size v n xs)
    {y : Value} {m : Nat} {news : List Value} (hsrc : Rd w size y m news) (hs : a.eval s = v) (hx : a.eval x = y) (h1 : ∀ u ∈ news, u.oneCell' = true) (hn : (n + m) * bytes ≤ 140737488355328) (hbase : base ≤ w.heap.size)
    (h : ∀ v' w', w'.ownsRow base e size v' (n + m) (xs ++ news) → w.grownBy w' v.ownBlock → K (a.put o.dst v') w') : o.wp P a w K Q := by
  obtain ⟨i, hi, h2, h3, h4⟩ := info_parts hinfo
  have hn2 : n + m ≤ maxLen := by
    have h5 : (n + m) * 1 ≤ (n + m) * bytes := Nat.mul_le_mul_left _ hsz.2
    unfold maxLen; omega
  rcases hsrc with ⟨rfl, rfl, rfl⟩ | ⟨b, cap, rfl, k1, k2, k3, k4⟩
  · have hrun := run_append_owned_none (P := P) (w := w) base t o.type e i size ht hi v n xs hown
    unfold Oper.wp
    simp [execOp, ho, resolve, invoke, builtin, hs, hx, hrun, Result.andThen]
    exact h v w (by simpa using hown) ⟨rfl, rfl, rfl, Nat.le_refl _, fun _ _ _ => rfl⟩
  · exact wp_append_own w s x t ho base e i z size bytes ht hi h2 h3 h4 hzs hsz.1 v n xs hs hown b m cap news hx k3 k4 h1 hn2 hn hbase fun v' w' ho' hg _ => h v' w' ho' hg
end Go.Proofs.YtajhndakkaniaaaGreatDoor
