/- A region that draws its order, of which a forced tail stores into what the head has read: the head in whatever order, then the tail. General lemmas; no program in sight. -/
import Derived.Test.YtajhndakkaniaaaGreatDoorRun
import Derived.StillTail
namespace Go.Proofs.YtajhndakkaniaaaGreatDoor
open Go.RowKit

section
variable {P : Program} {md : Region.Mode} {ops : Array Oper} {Q : Exit → Act → World → Prop} {S : World → Prop}

/-- f operations of the head (numbers below n) come up, in whatever order; then L -/
def wpHead (P : Program) (md : Region.Mode) (ops : Array Oper) (Q : Exit → Act → World → Prop) (S : World → Prop) (n : Nat) (L : Array Bool → Act → World → Prop) : Nat → Array Bool → Act → World → Prop
  | 0, listed, a, w => L listed a w
  | f + 1, listed, a, w => Region.ready md ops listed ≠ [] ∧ ∀ i ∈ Region.ready md ops listed, i < n ∧ wpOp P ops Q i (fun a' w' => S w' ∧ wpHead P md ops Q S n L f (listed.setIfInBounds i true) a' w') a w

theorem wpAny_of_wpHead {n g : Nat} {L : Array Bool → Act → World → Prop} (hL : ∀ listed a w, L listed a w → wpAny P md ops Q g listed a w) :
    ∀ (f : Nat) (listed : Array Bool) (a : Act) (w : World), wpHead P md ops Q S n L f listed a w → wpAny P md ops Q (f + g) listed a w
  | 0, listed, a, w, h => by rw [Nat.zero_add]; exact hL _ _ _ h
  | f + 1, listed, a, w, h => by
    rw [show f + 1 + g = (f + g) + 1 by omega]
    exact ⟨fun h0 => absurd h0 h.1, fun i hi => wpOp_mono (fun a' w' h' => wpAny_of_wpHead hL f _ a' w' h'.2) (h.2 i hi).2⟩

theorem wpHead_mono {n : Nat} {L : Array Bool → Act → World → Prop} {S' : World → Prop} (hS : ∀ w, S' w → S w) : ∀ (f : Nat) (listed : Array Bool) (a : Act) (w : World), wpHead P md ops Q S' n L f listed a w → wpHead P md ops Q S n L f listed a w
  | 0, _, _, _, h => h
  | f + 1, _, _, _, h => ⟨h.1, fun i hi => ⟨(h.2 i hi).1, wpOp_mono (fun a' w' h' => ⟨hS _ h'.1, wpHead_mono hS f _ a' w' h'.2⟩) (h.2 i hi).2⟩⟩

theorem wpHead_first {n i : Nat} {oi : Oper} {v : Value} {L : Array Bool → Act → World → Prop} (hi : ops[i]? = some oi) (hsel : ∀ (j : Nat) (o : Oper) cs b, ops[j]? = some o → o.op ≠ .select cs b)
    (hs : Region.sinkB md ops n = true) (hc : Region.chainB md ops n = true) (hn : n < ops.size) (hin : i < n) (hLr : ∀ listed a w, L listed a w → ∀ j ∈ Region.ready md ops listed, n ≤ j)
    (hQ : ∀ c a w, Q (.panic c) (a.put oi.dst v) w → Q (.panic c) a w) :
    ∀ (fuel : Nat) (listed : Array Bool) (a : Act) (w : World), HeadInv md ops n listed →
      (∀ j oj, ops[j]? = some oj → j ≠ i → listed.getD j true = false → (∀ e ∈ oj.after, Region.binds md e = true → e.on ≠ i) → oi.apart ops oj = true) →
      i ∈ Region.ready md ops listed → YieldsIf P ops S oi v a → S w →
      wpHead P md ops Q S n L fuel (listed.setIfInBounds i true) (a.put oi.dst v) w → wpHead P md ops Q S n L (fuel + 1) listed a w := by
  intro fuel
  induction fuel with
  | zero =>
    intro listed a w inv _ hr hy hS H
    refine ⟨fun h => (by rw [h] at hr; cases hr), fun j hj => ?_⟩
    by_cases hji : j = i
    · subst hji; exact ⟨hin, hy.wpOp hi hS ⟨hS, H⟩⟩
    · have h1 := hLr _ _ _ H j (ready_mono hj hji)
      exact absurd hj (tail_waits hs hc hn inv _ i rfl hin (mem_ready.1 hr).1 j h1)
  | succ fuel ih =>
    intro listed a w inv hfree hr hy hS H
    refine ⟨fun h => (by rw [h] at hr; cases hr), fun j hj => ?_⟩
    by_cases hji : j = i
    · subst hji; exact ⟨hin, hy.wpOp hi hS ⟨hS, H⟩⟩
    · obtain ⟨hjn, h1⟩ := H.2 j (ready_mono hj hji)
      obtain ⟨hjun, oj, hoj, hall⟩ := mem_ready.1 hj
      have hnot : ∀ e ∈ oj.after, Region.binds md e = true → e.on ≠ i := fun e he hb heq => by
        have h1 := hall e he hb
        have h0 := (mem_ready.1 hr).1
        rw [heq] at h1
        rcases Nat.lt_or_ge i listed.size with h' | h'
        · simp [h'] at h0 h1; rw [h0] at h1; cases h1
        · simp [Array.getElem?_eq_none h'] at h1
      have h2 := wpOp_putIf hoj (hfree j oj hoj hji hjun hnot) (fun cs b => hsel i oi cs b hi) (fun cs b => hsel j oj cs b hoj) hQ hy h1
      have hfree' : ∀ k ok, ops[k]? = some ok → k ≠ i → (listed.setIfInBounds j true).getD k true = false →
          (∀ e ∈ ok.after, Region.binds md e = true → e.on ≠ i) → oi.apart ops ok = true := fun k ok hk hki hun hno => by
        refine hfree k ok hk hki ?_ hno
        by_cases hjk : j = k
        · subst hjk; exact hjun
        · rw [getD_set_ne true hjk] at hun; exact hun
      refine ⟨hjn, wpOp_mono (fun a' w' h3 => ⟨h3.2.1, ih (listed.setIfInBounds j true) a' w' (inv.set hj hjn) hfree' (ready_mono hr (Ne.symm hji)) h3.1 h3.2.1 ?_⟩) h2⟩
      rw [Array.setIfInBounds_comm _ _ hji]
      exact h3.2.2

def headInvB (md : Region.Mode) (ops : Array Oper) (n : Nat) (listed : Array Bool) : Bool :=
  (listed.size == ops.size) && ((List.range ops.size).all fun j => match ops[j]? with | some o => !listed.getD j false || o.after.all (fun e => !Region.binds md e || listed.getD e.on false) | none => true) && ((List.range ops.size).all fun t => decide (t < n) || !listed.getD t true)
theorem headInv_spec {n : Nat} {listed : Array Bool} (h : headInvB md ops n listed = true) : HeadInv md ops n listed := by
  simp only [headInvB, Bool.and_eq_true, beq_iff_eq] at h
  obtain ⟨⟨h1, h2⟩, h3⟩ := h
  refine ⟨h1, fun j oj hj hl e he hb => ?_, fun t ht ht' => ?_⟩
  · have hlt := (Array.getElem?_eq_some_iff.1 hj).1
    have := List.all_eq_true.1 h2 j (List.mem_range.2 hlt)
    rw [hj] at this
    simp only [hl, Bool.not_true, Bool.false_or] at this
    have h4 := (Array.all_eq_true'.1 this) e he
    simpa [hb] using h4
  · have := List.all_eq_true.1 h3 t (List.mem_range.2 ht')
    simp only [Bool.or_eq_true, decide_eq_true_eq] at this
    rcases this with h4 | h4
    · omega
    · simpa using h4
end

section
variable {P : Program}
def TailOk (P : Program) (Q : Exit → Act → World → Prop) (l : List Oper) (n : Nat) (listed : Array Bool) (a : Act) (w : World) : Prop :=
  Region.seqB .any l.toArray (l.length - n) n listed = true ∧ wpList P l.toArray (NoPanic Q) (l.drop n) a w
/-- the head, stage by stage: what has come up, or is taken first, is marked in 'listed' -/
def Heads (P : Program) (M : Nat → Prop) (Q : Exit → Act → World → Prop) (l : List Oper) (n : Nat) (fuel : Nat) (listed : Array Bool) (a : Act) (W : World) : Prop :=
  wpHead P .any l.toArray (NoPanic Q) (Kept M W) n (TailOk P Q l n) fuel listed a W
def headOk (l : List Oper) (n : Nat) : Bool := Region.noSelect l.toArray && Region.sinkB .any l.toArray n && Region.chainB .any l.toArray n && decide (n < l.length)

theorem heads_q {M : Nat → Prop} {Q : Exit → Act → World → Prop} {l : List Oper} {n : Nat} (hh : headOk l n = true) : ∀ (is : List Nat) (fuel : Nat) (listed : Array Bool) (a : Act) (W : World), is.length ≤ fuel → quietOk l.toArray is listed = true → (∀ i ∈ is, i < n) → HeadInv .any l.toArray n listed →
    (is.foldr (fun i k a => qOp P l.toArray (fun w => ∃ k, w = later M W k) i k a) (fun a' => Heads P M Q l n (fuel - is.length) (is.foldl (fun s i => s.setIfInBounds i true) listed) a' W)) a → Heads P M Q l n fuel listed a W := by
  simp only [headOk, Bool.and_eq_true, decide_eq_true_eq] at hh
  obtain ⟨⟨⟨hsel, hs⟩, hc⟩, hn⟩ := hh
  have hn' : n < l.toArray.size := by simpa using hn
  intro is
  induction is with
  | nil => intro fuel listed a W _ _ _ _ h; exact h
  | cons i is ih =>
    intro fuel listed a W hf hok hin inv h
    obtain ⟨fuel, rfl⟩ : ∃ f, fuel = f + 1 := ⟨fuel - 1, by simp at hf; omega⟩
    simp only [quietOk, Bool.and_eq_true] at hok
    obtain ⟨⟨⟨h1, h2⟩, h3⟩, h4⟩ := hok
    have hf' : is.length ≤ fuel := by simp at hf; omega
    have hfe : fuel + 1 - (i :: is).length = fuel - is.length := by rw [List.length_cons]; omega
    have hr : i ∈ Region.ready .any l.toArray listed := by simpa using h2
    have hi' := hin i (by simp)
    have inv' := inv.set hr hi'
    rw [hfe, List.foldr_cons, List.foldl_cons] at h
    cases ho : l.toArray[i]? with
    | none => rw [ho] at h3; simp at h3
    | some o =>
      rw [ho] at h3
      simp only [qOp, ho] at h
      have hQ : ∀ v, ∀ c (a : Act) w, NoPanic Q (.panic c) (a.put o.dst v) w → NoPanic Q (.panic c) a w := fun v c a w h => h
      have hLr : ∀ listed a w, TailOk P Q l n listed a w → ∀ j ∈ Region.ready .any l.toArray listed, n ≤ j := fun _ _ _ h => seqB_ready h.1
      by_cases hw : Region.wanted o (yielded l.toArray a.tmps) = true
      · rw [if_pos hw] at h
        obtain ⟨v, hv, hnx⟩ := h
        have hy : YieldsIf P l.toArray (Kept M W) o v a := .inl ⟨hw, fun x hx => by
          have h5 := hv x ⟨x, (later_of hx).symm⟩
          unfold Oper.quietAt at h5
          generalize hrr : (execOp a.eval o).run P x = res at h5
          cases res with
          | halt y w1 => exact h5.elim
          | ok n w1 =>
            obtain ⟨u, rfl⟩ := isVal_value h3 hrr
            obtain ⟨rfl, rfl⟩ := h5
            rfl⟩
        exact wpHead_first ho (Region.noSelect_spec hsel) hs hc hn' hi' hLr (hQ v) fuel listed a W inv (Region.free_spec ho h1) hr hy (Kept.refl _ _) (ih fuel _ _ W hf' h4 (fun j hj => hin j (by simp [hj])) inv' hnx)
      · rw [if_neg hw] at h
        have hy : YieldsIf P l.toArray (Kept M W) o undef a := .inr ⟨by simpa using hw, rfl⟩
        exact wpHead_first ho (Region.noSelect_spec hsel) hs hc hn' hi' hLr (hQ undef) fuel listed a W inv (Region.free_spec ho h1) hr hy (Kept.refl _ _) (ih fuel _ _ W hf' h4 (fun j hj => hin j (by simp [hj])) inv' h)

/-- what reads -/
theorem hd_quiet {M : Nat → Prop} {Q : Exit → Act → World → Prop} {l : List Oper} {n fuel : Nat} {listed : Array Bool} {a : Act} {W : World} (m : List Bool)
    (hok : (headOk l n && quietOk l.toArray (idxAt m 0) listed && decide ((idxAt m 0).length ≤ fuel) && (idxAt m 0).all (fun i => decide (i < n)) && headInvB .any l.toArray n listed) = true)
    (h : wpQuiet P l.toArray (fun w => ∃ k, w = later M W k) (fun a' => Heads P M Q l n (fuel - (idxAt m 0).length) (mark m listed) a' W) (pickAt m l) a) : Heads P M Q l n fuel listed a W := by
  simp only [Bool.and_eq_true, decide_eq_true_eq] at hok
  exact heads_q hok.1.1.1.1 (idxAt m 0) fuel listed a W hok.1.1.2 hok.1.1.1.2 (fun i hi => by simpa using List.all_eq_true.1 hok.1.2 i hi) (headInv_spec hok.2) (quiet_fold l m 0 [] rfl rfl a h)
/-- the one that acts -/
theorem hd_act {M : Nat → Prop} {Q : Exit → Act → World → Prop} {l : List Oper} {n fuel : Nat} {listed : Array Bool} {a : Act} {W : World} (i : Nat) {o : Oper} (ho : l[i]? = some o)
    (hok : (Region.ready .any l.toArray listed == [i] && decide (0 < fuel) && decide (i < n)) = true) (h : goAt P M Q l.toArray o a W (fun a' w' => Heads P M Q l n (fuel - 1) (listed.setIfInBounds i true) a' w')) : Heads P M Q l n fuel listed a W := by
  simp only [Bool.and_eq_true, beq_iff_eq, decide_eq_true_eq] at hok
  obtain ⟨fuel, rfl⟩ : ∃ f, fuel = f + 1 := ⟨fuel - 1, by omega⟩
  refine ⟨by rw [hok.1.1]; simp, fun j hj => ?_⟩
  obtain rfl : j = i := by rw [hok.1.1] at hj; simpa using hj
  have ho' : l.toArray[j]? = some o := by simpa using ho
  refine ⟨hok.2, ?_⟩
  unfold wpOp
  simp only [ho']
  unfold goAt at h
  by_cases hw : Region.wanted o (yielded l.toArray a.tmps) = true
  · rw [if_pos hw] at h ⊢
    exact .inl (h _ fun a' w' hk' hn => ⟨hk', wpHead_mono (fun x hx => hk'.trans hx) fuel _ a' w' hn⟩)
  · rw [if_neg hw] at h ⊢
    exact ⟨Kept.refl _ _, h⟩
/-- the tail -/
theorem hd_tail {M : Nat → Prop} {Q : Exit → Act → World → Prop} {l : List Oper} {n fuel : Nat} {listed : Array Bool} {a : Act} {W : World} (hf : fuel = 0)
    (hok : Region.seqB .any l.toArray (l.length - n) n listed = true) (h : wpList P l.toArray (NoPanic Q) (l.drop n) a W) : Heads P M Q l n fuel listed a W := by
  subst hf; exact ⟨hok, h⟩
/-- THE REGION: a head of n operations -/
theorem wp_heads {M : Nat → Prop} {Q : Exit → Act → World → Prop} {id : Nat} {a : Act} {W : World} {l : List Oper} (n : Nat) (hm : P.follows .mixedOrders = true) (hn : decide (n ≤ l.length) = true)
    (h : Heads P M Q l n n (Array.replicate l.length false) a W.drew) : (Code.region id l.toArray true).wp P Q a W := by
  refine wp_region_noPanic (wp_region_any hm ?_)
  have h2 := wpAny_of_wpHead (g := l.length - n) (fun listed a w hL => by
    have := wpAny_of_seq (md := .any) (Q' := NoPanic Q) (l.drop n) n listed a w (fun j => by simp [List.getElem?_drop]) (by rw [List.length_drop]; exact hL.1) hL.2
    rwa [List.length_drop] at this) _ _ _ _ h
  have e : n + (l.length - n) = l.toArray.size := by simp only [decide_eq_true_eq] at hn; simp; omega
  rw [e] at h2
  exact h2
end
end Go.Proofs.YtajhndakkaniaaaGreatDoor
