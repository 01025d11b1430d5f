/- A region that draws its order: what only reads is taken first, what acts (a call, a new block) comes in the one order that the text leaves. General lemmas; no program in sight. -/
import Derived.Test.YtajhndakkaniaaaGreatDoorLib
import Derived.Deep.RegionHeld3
namespace Go.Proofs.YtajhndakkaniaaaGreatDoor
open Go.RowKit

/-- but for the blocks of M (and new ones) the world is as it was -/
structure Kept (M : Nat → Prop) (w w' : World) : Prop where
  os : w'.os = w.os
  tape : w'.tape = w.tape
  output : w'.output = w.output
  size : w.heap.size ≤ w'.heap.size
  block : ∀ b, b < w.heap.size → ¬ M b → w'.heap[b]? = w.heap[b]?

theorem Kept.refl (M : Nat → Prop) (w : World) : Kept M w w := ⟨rfl, rfl, rfl, Nat.le_refl _, fun _ _ _ => rfl⟩
theorem Kept.trans {M : Nat → Prop} {a b c : World} (h : Kept M a b) (k : Kept M b c) : Kept M a c :=
  ⟨k.os.trans h.os, k.tape.trans h.tape, k.output.trans h.output, Nat.le_trans h.size k.size, fun i hi hm => (k.block i (Nat.lt_of_lt_of_le hi h.size) hm).trans (h.block i hi hm)⟩
theorem Kept.of_below {M : Nat → Prop} {w w' : World} (h : Below w.heap.size w w') : Kept M w w' := ⟨h.os, h.tape, h.output, h.size, fun b hb _ => h.block b hb⟩
theorem Kept.below {w w' : World} (h : Kept (fun _ => False) w w') : Below w.heap.size w w' := ⟨h.os, h.tape, h.output, h.size, fun b hb => h.block b hb id⟩
theorem Kept.mono {M N : Nat → Prop} {w w' : World} (h : Kept M w w') (hMN : ∀ b, b < w.heap.size → M b → N b) : Kept N w w' := ⟨h.os, h.tape, h.output, h.size, fun b hb hn => h.block b hb fun hm => hn (hMN b hb hm)⟩
theorem Kept.drew (M : Nat → Prop) (w : World) : Kept M w w.drew := ⟨rfl, rfl, rfl, Nat.le_refl _, fun _ _ _ => rfl⟩
theorem Kept.dn (M : Nat → Prop) (w : World) (n : Nat) : Kept M w (w.drewN n) := ⟨rfl, rfl, rfl, Nat.le_refl _, fun _ _ _ => rfl⟩
theorem Kept.cell {M : Nat → Prop} {w w' : World} (h : Kept M w w') (b o : Nat) (hb : b < w.heap.size) (hm : ¬ M b) : w'.cell? ⟨b, o, none⟩ = w.cell? ⟨b, o, none⟩ := World.cell?_of_block (w := w) (h.block b hb hm)
theorem Kept.frozen {M : Nat → Prop} {w w' : World} (h : Kept M w w') (b o : Nat) (hb : b < w.heap.size) (hm : ¬ M b) : w'.frozen? ⟨b, o, none⟩ = w.frozen? ⟨b, o, none⟩ := World.frozen?_of_block (w := w) (h.block b hb hm)
theorem Kept.heap {M : Nat → Prop} {w w' : World} (h : Kept M w w') {b : Nat} {x : Obj} (hx : w.heap[b]? = some x) (hm : ¬ M b) : w'.heap[b]? = some x := by rw [h.block b (heap_lt hx) hm, hx]

open Classical in
/-- the world k, if it may come later than W; else W -/
noncomputable def later (M : Nat → Prop) (W k : World) : World := if Kept M W k then k else W
theorem later_kept (M : Nat → Prop) (W k : World) : Kept M W (later M W k) := by
  unfold later; split
  · assumption
  · exact Kept.refl _ _
theorem later_of {M : Nat → Prop} {W k : World} (h : Kept M W k) : later M W k = k := by unfold later; rw [if_pos h]
@[go_sem] theorem later_cell {M : Nat → Prop} {W k : World} {b o : Nat} (hb : b < W.heap.size) (hm : ¬ M b) : (later M W k).cell? ⟨b, o, none⟩ = W.cell? ⟨b, o, none⟩ := (later_kept M W k).cell b o hb hm
@[go_sem] theorem later_frozen {M : Nat → Prop} {W k : World} {b o : Nat} (hb : b < W.heap.size) (hm : ¬ M b) : (later M W k).frozen? ⟨b, o, none⟩ = W.frozen? ⟨b, o, none⟩ := (later_kept M W k).frozen b o hb hm
theorem Rd.later {w : World} {size n : Nat} {v : Value} {xs : List Value} (h : Rd w size v n xs) (k : World) : Rd (later (fun _ => False) w k) size v n xs := h.below (later_kept _ w k).below
theorem Rd.keptF {w w' : World} {size n : Nat} {v : Value} {xs : List Value} (h : Rd w size v n xs) (hk : Kept (fun _ => False) w w') : Rd w' size v n xs := h.below hk.below

/-- an operation that yields a value and leaves the world alone, if it runs -/
def isVal (o : Oper) : Bool :=
  match o.op with
  | .move _ | .assign _ | .pick .. | .build .. | .load .. | .binOp .. | .unOp .. | .convert .. | .slice .. | .fieldAddr .. | .field .. | .indexAddr .. | .index .. | .extract .. | .nilCheck .. => true
  | .call c => match c.callee with
    | .builtin .len | .builtin .cap | .builtin .min | .builtin .max => true
    | _ => false
  | _ => false

theorem val_bind {P : Program} {w w' : World} {s : Sem Value} {n : Next} (h : (do pure (Next.value (← s)) : Sem Next).run P w = .ok n w') : ∃ v, n = .value v := by
  rw [Sem.run_bind] at h
  cases hs : s.run P w with
  | ok a w1 => rw [hs] at h; simp [Sem.run_pure] at h; exact ⟨a, h.1.symm⟩
  | halt x w1 => rw [hs] at h; simp at h

theorem isVal_value {P : Program} {ρ : Operand → Value} {o : Oper} {w w' : World} {n : Next} (hv : isVal o = true) (h : (execOp ρ o).run P w = .ok n w') : ∃ v, n = .value v := by
  obtain ⟨dst, op, type, pos, after, guard⟩ := o
  cases op <;> first | (simp [isVal] at hv; done) | skip
  case move x => simp [execOp, Sem.run_pure] at h; exact ⟨_, h.1.symm⟩
  case assign x => simp [execOp, Sem.run_pure] at h; exact ⟨_, h.1.symm⟩
  case pick c x y =>
    simp only [execOp, Sem.run_bind] at h
    cases hb : (asBool (ρ c)).run P w with
    | ok a w1 => rw [hb] at h; cases a <;> simp [Sem.run_pure] at h <;> exact ⟨_, h.1.symm⟩
    | halt x w1 => rw [hb] at h; simp at h
  case call c =>
    obtain ⟨callee, args, ats⟩ := c
    cases callee <;> first | (simp [isVal] at hv; done) | skip
    rename_i b
    rw [BigFrame.execOp_builtin] at h
    cases b <;> first | (simp [isVal] at hv; done) | exact val_bind h
  case nilCheck x =>
    simp only [execOp] at h
    split at h
    · simp [runtimePanic, go_sem] at h
    · simp [runtimePanic, go_sem] at h
    · simp [runtimePanic, go_sem] at h
    · split at h
      · simp [runtimePanic, go_sem] at h
      · rw [Sem.run_bind] at h
        generalize hs : (Sem.run P program w) = q at h
        cases q with
        | halt x w1 => simp at h
        | ok a w1 =>
          simp only [Result.andThen_ok] at h
          rw [Sem.run_bind] at h
          generalize hs2 : Sem.run P (nilAhead _ _ _ _) w1 = q2 at h
          cases q2 with
          | halt x w2 => simp at h
          | ok b w2 =>
            simp only [Result.andThen_ok] at h
            by_cases hb : (b != some false) = true
            · simp [hb, unsupported, go_sem] at h
            · simp [hb, Sem.run_pure] at h; exact ⟨_, h.1.symm⟩
      · simp [Sem.run_pure] at h; exact ⟨_, h.1.symm⟩
    · simp [Sem.run_pure] at h; exact ⟨_, h.1.symm⟩
  all_goals exact val_bind h

section
variable {P : Program} {ops : Array Oper}

/-- the order: (number, does it act?) -/
def ordOk (ops : Array Oper) : List (Nat × Bool) → Array Bool → Bool
  | [], listed => (Region.ready .any ops listed).isEmpty
  | (i, false) :: r, listed => Region.free .any ops listed i && (Region.ready .any ops listed).contains i && (match ops[i]? with | some o => isVal o | none => false) && ordOk ops r (listed.setIfInBounds i true)
  | (i, true) :: r, listed => (Region.ready .any ops listed == [i]) && ordOk ops r (listed.setIfInBounds i true)

/-- an operation that acts, in whatever world may have come by then -/
def actAt (P : Program) (M : Nat → Prop) (Q : Exit → Act → World → Prop) (ops : Array Oper) (o : Oper) (a : Act) (W : World) (next : Act → World → Prop) : Prop :=
  if Region.wanted o (yielded ops a.tmps) = true then
    ∀ w, Kept M W w → ∀ K : Act → World → Prop, (∀ a' w', Kept M w w' → next a' w' → K a' w') → o.wp P a w K (NoPanic Q)
  else next (a.put o.dst undef) W

/-- the walk in that order: what reads is run in whatever world may come later than W, the world behind the last operation that acted -/
def wpOrd (P : Program) (M : Nat → Prop) (Q : Exit → Act → World → Prop) (ops : Array Oper) : List (Nat × Bool) → Act → World → Prop
  | [], a, W => ∀ w, Kept M W w → Q .normal a w
  | (i, false) :: r, a, W => qOp P ops (fun w => ∃ k, w = later M W k) i (fun a' => wpOrd P M Q ops r a' W) a
  | (i, true) :: r, a, W => match ops[i]? with
    | none => False
    | some o => actAt P M Q ops o a W (fun a' w' => wpOrd P M Q ops r a' w')

theorem wpAnyH_mono {md : Region.Mode} {Q : Exit → Act → World → Prop} {S S' : World → Prop} (hS : ∀ w, S' w → S w) : ∀ (fuel : Nat) (listed : Array Bool) (a : Act) (w : World), wpAnyH P md ops Q S' fuel listed a w → wpAnyH P md ops Q S fuel listed a w
  | 0, _, _, _, h => h
  | fuel + 1, _, _, _, h => ⟨h.1, fun i hi => wpOp_mono (fun a' w' h' => ⟨hS _ h'.1, wpAnyH_mono hS fuel _ a' w' h'.2⟩) (h.2 i hi)⟩

theorem wpOrd_any {M : Nat → Prop} {Q : Exit → Act → World → Prop} (hsel : Region.noSelect ops = true) : ∀ (order : List (Nat × Bool)) (listed : Array Bool) (a : Act) (W w : World) (fuel : Nat), order.length ≤ fuel → ordOk ops order listed = true →
    wpOrd P M Q ops order a W → Kept M W w → wpAnyH P .any ops (NoPanic Q) (Kept M W) fuel listed a w := by
  intro order
  induction order with
  | nil =>
    intro listed a W w fuel _ hok h hk
    exact wpAnyH_done (by simpa [ordOk] using hok) (NoPanic.normal (h w hk)) fuel
  | cons x r ih =>
    obtain ⟨i, act⟩ := x
    intro listed a W w fuel hf hok h hk
    obtain ⟨fuel, rfl⟩ : ∃ f, fuel = f + 1 := ⟨fuel - 1, by simp at hf; omega⟩
    have hf' : r.length ≤ fuel := by simp at hf; omega
    cases act with
    | false =>
      simp only [ordOk, Bool.and_eq_true] at hok
      obtain ⟨⟨⟨h1, h2⟩, h3⟩, h4⟩ := hok
      cases ho : ops[i]? with
      | none => rw [ho] at h3; simp at h3
      | some o =>
        rw [ho] at h3
        simp only [wpOrd, qOp, ho] at h
        have hQ : ∀ v, ∀ c (a : Act) w, NoPanic Q (.panic c) (a.put o.dst v) w → NoPanic Q (.panic c) a w := fun v c a w h => h
        by_cases hw : Region.wanted o (yielded ops a.tmps) = true
        · rw [if_pos hw] at h
          obtain ⟨v, hv, hn⟩ := h
          have hy : YieldsIf P ops (Kept M W) o v a := .inl ⟨hw, fun x hx => by
            have h5 := hv x ⟨x, (later_of hx).symm⟩
            unfold Oper.quietAt at h5
            generalize hr : (execOp a.eval o).run P x = res at h5
            cases res with
            | halt y w1 => exact h5.elim
            | ok n w1 =>
              obtain ⟨u, rfl⟩ := isVal_value h3 hr
              obtain ⟨rfl, rfl⟩ := h5
              rfl⟩
          exact wpAnyH_take ho hsel h1 h2 (hQ v) hy hk (ih _ _ W w fuel hf' h4 hn hk)
        · rw [if_neg hw] at h
          have hy : YieldsIf P ops (Kept M W) o undef a := .inr ⟨by simpa using hw, rfl⟩
          exact wpAnyH_take ho hsel h1 h2 (hQ undef) hy hk (ih _ _ W w fuel hf' h4 h hk)
    | true =>
      simp only [ordOk, Bool.and_eq_true, beq_iff_eq] at hok
      obtain ⟨h1, h4⟩ := hok
      simp only [wpOrd] at h
      cases ho : ops[i]? with
      | none => rw [ho] at h; exact h.elim
      | some o =>
        rw [ho] at h
        simp only at h
        refine wpAnyH_all h1 (by simp) ?_
        intro j hj
        obtain rfl : j = i := by simpa using hj
        unfold wpOp
        simp only [ho]
        unfold actAt at h
        by_cases hw : Region.wanted o (yielded ops a.tmps) = true
        · rw [if_pos hw] at h ⊢
          refine .inl (h w hk _ fun a' w' hk' hn => ?_)
          have hk2 := hk.trans hk'
          exact ⟨hk2, wpAnyH_mono (fun x hx => hk2.trans hx) fuel _ a' w' (ih _ _ w' w' fuel hf' h4 hn (Kept.refl _ _))⟩
        · rw [if_neg hw] at h ⊢
          exact ⟨hk, ih _ _ W w fuel hf' h4 h hk⟩

/-- THE REGION -/
theorem wp_ord {M : Nat → Prop} {Q : Exit → Act → World → Prop} {id : Nat} {a : Act} {W : World} (order : List (Nat × Bool)) (hm : P.follows .mixedOrders = true) (hok : (Region.noSelect ops && ordOk ops order (Array.replicate ops.size false) && decide (order.length ≤ ops.size)) = true)
    (h : wpOrd P M Q ops order a W) : (Code.region id ops true).wp P Q a W := by
  simp only [Bool.and_eq_true, decide_eq_true_eq] at hok
  exact wp_region_noPanic (wp_region_held hm (wpOrd_any hok.1.1 order _ a W _ _ hok.2 hok.1.2 h (Kept.drew M W)))

def pickAt {α : Type} : List Bool → List α → List α
  | true :: m, x :: l => x :: pickAt m l
  | false :: m, _ :: l => pickAt m l
  | _, _ => []
def idxAt : List Bool → Nat → List Nat
  | true :: m, n => n :: idxAt m (n + 1)
  | false :: m, n => idxAt m (n + 1)
  | [], _ => []

/-- the order by stages: of each stage: which operations are taken first (a mask, in the text's order), then the one that acts -/
def stages : List (List Bool × Nat) → List Bool → List (Nat × Bool)
  | [], last => (idxAt last 0).map fun i => (i, false)
  | (m, e) :: r, last => (idxAt m 0).map (fun i => (i, false)) ++ (e, true) :: stages r last

theorem ord_quiet {M : Nat → Prop} {Q : Exit → Act → World → Prop} {l : List Oper} : ∀ (m : List Bool) (n : Nat) (pre : List Oper), pre.length = n → ops = (pre ++ l).toArray → ∀ (r : List (Nat × Bool)) (a : Act) (W : World),
    wpQuiet P ops (fun w => ∃ k, w = later M W k) (fun a' => wpOrd P M Q ops r a' W) (pickAt m l) a → wpOrd P M Q ops ((idxAt m n).map (fun i => (i, false)) ++ r) a W := by
  induction l with
  | nil =>
    intro m n pre hpre hops r a W h
    have h1 : pickAt m ([] : List Oper) = [] := by cases m with | nil => rfl | cons b m => cases b <;> rfl
    rw [h1] at h
    -- no operation is left: what the mask names beyond is none
    have key : ∀ (m : List Bool) (n : Nat), pre.length ≤ n → wpOrd P M Q ops r a W → wpOrd P M Q ops ((idxAt m n).map (fun i => (i, false)) ++ r) a W := by
      intro m
      induction m with
      | nil => intro n _ h; exact h
      | cons b m ihm =>
        intro n hn h
        cases b with
        | false => exact ihm (n + 1) (by omega) h
        | true =>
          show qOp P ops _ n _ a
          have ho : ops[n]? = none := by rw [hops]; simp; omega
          unfold qOp
          simp only [ho]
          exact ihm (n + 1) (by omega) h
    exact key m n (by omega) h
  | cons o l ih =>
    intro m n pre hpre hops r a W h
    have hnext : ops = ((pre ++ [o]) ++ l).toArray := by rw [hops]; simp
    cases m with
    | nil => exact h
    | cons b m =>
      cases b with
      | false => exact ih m (n + 1) (pre ++ [o]) (by simp [hpre]) hnext r a W h
      | true =>
        have ho : ops[n]? = some o := by rw [hops]; simp [← hpre]
        show qOp P ops _ n _ a
        unfold qOp
        simp only [ho]
        have h2 : if Region.wanted o (yielded ops a.tmps) = true then o.quiet P a (fun w => ∃ k, w = later M W k) (wpQuiet P ops (fun w => ∃ k, w = later M W k) (fun a' => wpOrd P M Q ops r a' W) (pickAt m l)) else wpQuiet P ops (fun w => ∃ k, w = later M W k) (fun a' => wpOrd P M Q ops r a' W) (pickAt m l) (a.put o.dst undef) := h
        split
        · rename_i hw
          rw [if_pos hw] at h2
          exact Oper.quiet_mono (fun a' h3 => ih m (n + 1) (pre ++ [o]) (by simp [hpre]) hnext r a' W h3) h2
        · rename_i hw
          rw [if_neg hw] at h2
          exact ih m (n + 1) (pre ++ [o]) (by simp [hpre]) hnext r _ W h2

/-- one stage -/
theorem ord_stage {M : Nat → Prop} {Q : Exit → Act → World → Prop} {l : List Oper} {m : List Bool} {e : Nat} {r : List (List Bool × Nat)} {last : List Bool} {a : Act} {W : World} {o : Oper} (ho : l[e]? = some o)
    (h : wpQuiet P l.toArray (fun w => ∃ k, w = later M W k) (fun a' => actAt P M Q l.toArray o a' W (fun a'' w' => wpOrd P M Q l.toArray (stages r last) a'' w')) (pickAt m l) a) : wpOrd P M Q l.toArray (stages ((m, e) :: r) last) a W := by
  refine ord_quiet m 0 [] rfl rfl _ a W (wpQuiet_imp h fun a' h' => ?_)
  show match l.toArray[e]? with | none => False | some o => _
  have : l.toArray[e]? = some o := by simpa using ho
  rw [this]; exact h'
where
  wpQuiet_imp {C : World → Prop} {Q1 Q2 : Act → Prop} {ops : Array Oper} : ∀ {l : List Oper} {a : Act}, wpQuiet P ops C Q1 l a → (∀ a, Q1 a → Q2 a) → wpQuiet P ops C Q2 l a
    | [], _, h, hq => hq _ h
    | o :: l, a, h, hq => by
      unfold wpQuiet at h ⊢
      split
      · rename_i hw; rw [if_pos hw] at h; exact Oper.quiet_mono (fun a' h' => wpQuiet_imp h' hq) h
      · rename_i hw; rw [if_neg hw] at h; exact wpQuiet_imp h hq

/-- the last stage -/
theorem ord_last {M : Nat → Prop} {Q : Exit → Act → World → Prop} {l : List Oper} {last : List Bool} {a : Act} {W : World}
    (h : wpQuiet P l.toArray (fun w => ∃ k, w = later M W k) (fun a' => ∀ w, Kept M W w → Q .normal a' w) (pickAt last l) a) : wpOrd P M Q l.toArray (stages [] last) a W := by
  have := ord_quiet (M := M) (Q := Q) last 0 [] rfl (ops := l.toArray) (l := l) rfl [] a W h
  simpa [stages] using this

theorem act_want {M : Nat → Prop} {Q : Exit → Act → World → Prop} {o : Oper} {a : Act} {W : World} {next : Act → World → Prop} (hw : Region.wanted o (yielded ops a.tmps) = true)
    (h : ∀ w, Kept M W w → ∀ K : Act → World → Prop, (∀ a' w', Kept M w w' → next a' w' → K a' w') → o.wp P a w K (NoPanic Q)) : actAt P M Q ops o a W next := by
  unfold actAt; rw [if_pos hw]; exact h
theorem act_skip {M : Nat → Prop} {Q : Exit → Act → World → Prop} {o : Oper} {a : Act} {W : World} {next : Act → World → Prop} (hw : Region.wanted o (yielded ops a.tmps) = false)
    (h : next (a.put o.dst undef) W) : actAt P M Q ops o a W next := by
  unfold actAt; rw [if_neg (by rw [hw]; simp)]; exact h
end
end Go.Proofs.YtajhndakkaniaaaGreatDoor
