/- The law QueuePlays (chapter 12): the queue and the law's own model side by side. No walk. -/
import Derived.Test.YtodkcbglbolfhaaQueueMod
import Derived.Test.YtodkcbglbolfhaaTail
namespace Go.Proofs.Ytodkcbglbolfhaa
open Go.RowKit

theorem usedTo_upd (L : Nat → List Bx) (p : Nat) (hp : p < 8) (l' : List Bx) : usedTo (upd L p l') 8 = usedTo L 8 - sumS (L p) + sumS l' := by
  rcases eight hp with rfl | rfl | rfl | rfl | rfl | rfl | rfl | rfl <;> simp [usedTo, upd] <;> omega
theorem sumS_app (l : List Bx) (x : Bx) : sumS (l ++ [x]) = sumS l + x.sz := by
  unfold sumS; rw [List.foldl_append]; rfl
theorem sumS_from (l : List Bx) : ∀ a : Int, l.foldl (fun n x => n + x.sz) a = a + sumS l := by
  induction l with
  | nil => intro a; simp [sumS]
  | cons x l ih =>
    intro a
    unfold sumS
    rw [List.foldl_cons, List.foldl_cons, ih, ih (0 + x.sz)]; omega
theorem sumS_append (l r : List Bx) : sumS (l ++ r) = sumS l + sumS r := by
  unfold sumS; rw [List.foldl_append, sumS_from]; rfl
theorem sumS_cons (x : Bx) (l : List Bx) : sumS (x :: l) = x.sz + sumS l := by
  have := sumS_append [x] l
  rw [List.singleton_append] at this
  rw [this]; simp [sumS]
theorem sumS_cut (l : List Bx) (k : Nat) (h : k < l.length) : sumS (l.take k ++ l.drop (k + 1)) = sumS l - l[k].sz := by
  have h1 : l = l.take k ++ (l[k] :: l.drop (k + 1)) := by
    rw [List.getElem_cons_drop, List.take_append_drop]
  have h2 := congrArg sumS h1
  rw [sumS_append, sumS_cons] at h2
  rw [sumS_append]; omega
theorem sumS_le (L : Nat → List Bx) (p : Nat) (hp : p < 8) : sumS (L p) ≤ usedTo L 8 := by
  have h0 := sumS_b (L 0); have h1 := sumS_b (L 1); have h2 := sumS_b (L 2); have h3 := sumS_b (L 3); have h4 := sumS_b (L 4); have h5 := sumS_b (L 5); have h6 := sumS_b (L 6); have h7 := sumS_b (L 7)
  rcases eight hp with rfl | rfl | rfl | rfl | rfl | rfl | rfl | rfl <;> simp only [usedTo] <;> omega
theorem sz_le (l : List Bx) (k : Nat) (h : k < l.length) : l[k].sz ≤ sumS l := by
  have h1 := sumS_cut l k h
  have h2 := sumS_b (l.take k ++ l.drop (k + 1))
  omega
/-- the queue holds LQ, the model LM -/
structure St (b m B : Nat) (V S : Nat → Value) (room : Int) (LQ LM : Nat → List Bx) (w : World) : Prop where
  q : Qu b B V room (usedTo LQ 8) LQ w
  d : Md m S room LM w
  ap : ∀ i, i < 8 → ∀ a l c, S i = .slice (some a) l c → ¬ QM b V a.block ∧ a.block ≠ m ∧ a.block < w.heap.size
  mm : ¬ QM b V m
  mB : B ≤ m
theorem St.below {b m B : Nat} {V S : Nat → Value} {room : Int} {LQ LM : Nat → List Bx} {w w' : World} (h : St b m B V S room LQ LM w) (hb : Below w.heap.size w w') : St b m B V S room LQ LM w' :=
  ⟨h.q.below hb, h.d.below hb, fun i hi a l c he => ⟨(h.ap i hi a l c he).1, (h.ap i hi a l c he).2.1, Nat.lt_of_lt_of_le (h.ap i hi a l c he).2.2 hb.size⟩, h.mm, h.mB⟩
theorem St.alloc {b m B : Nat} {V S : Nat → Value} {room : Int} {LQ LM : Nat → List Bx} {w : World} (h : St b m B V S room LQ LM w) (o : Obj) : St b m B V S room LQ LM (w.alloc o) := h.below ((Below.refl _ _).alloc (Nat.le_refl _) o)
theorem St.drew {b m B : Nat} {V S : Nat → Value} {room : Int} {LQ LM : Nat → List Bx} {w : World} (h : St b m B V S room LQ LM w) : St b m B V S room LQ LM w.drew := h.below (Below.refl _ _).drew
theorem rd_lt {w : World} {size n : Nat} {v : Value} {xs : List Value} (h : Rd w size v n xs) (hn : 0 < n) (hs : 0 < size) : ∀ a l c, v = .slice (some a) l c → a.block < w.heap.size := by
  obtain ⟨b, o, c, rfl, _, _, hb, _⟩ := h.some hn hs
  rintro a l c' h2
  cases h2; exact hb
/-- the queue has changed -/
theorem St.queue {b m B : Nat} {V S V' : Nat → Value} {room : Int} {LQ LM L' : Nat → List Bx} {w w' : World} (h : St b m B V S room LQ LM w) (hq : Qu b B V' room (usedTo L' 8) L' w') (hk : Kept (QM b V) w w') (hf : Fresh w V V') : St b m B V' S room L' LM w' := by
  have hnew : ∀ x, x < w.heap.size → QM b V' x → QM b V x := by
    rintro x hx (rfl | ⟨i, hi, he⟩)
    · exact .inl rfl
    · rcases hf i hi with h1 | h1
      · exact .inr ⟨i, hi, by rw [← h1]; exact he⟩
      · have := h1 x he; omega
  refine ⟨hq, h.d.kept hk h.mm fun i hi a l c he => (h.ap i hi a l c he).1, fun i hi a l c he => ?_, fun hm => h.mm (hnew m h.d.ob.lt hm), h.mB⟩
  exact ⟨fun hm => (h.ap i hi a l c he).1 (hnew _ (h.ap i hi a l c he).2.2 hm), (h.ap i hi a l c he).2.1, Nat.lt_of_lt_of_le (h.ap i hi a l c he).2.2 hk.size⟩
/-- a line of the model stored anew -/
theorem St.model {b m B : Nat} {V S : Nat → Value} {room : Int} {LQ LM : Nat → List Bx} {w : World} (h : St b m B V S room LQ LM w) {p : Nat} (hp : p < 8) {v' : Value} {l' : List Bx} (hr : Rd w 2 v' l'.length (l'.flatMap Bx.box))
    (hv : ∀ a l c, v' = .slice (some a) l c → ¬ QM b V a.block ∧ a.block ≠ m ∧ a.block < w.heap.size) : St b m B V (upd S p v') room LQ (upd LM p l') (w.setCell ⟨m, 1 + p, none⟩ v') := by
  have hk : Kept (Only m) w (w.setCell ⟨m, 1 + p, none⟩ v') := (Kept.refl _ _).setO
  have hq : Qu b B V room (usedTo LQ 8) LQ (w.setCell ⟨m, 1 + p, none⟩ v') := h.q.kept hk fun x hx hm => by
    have : x = m := hm
    subst this; exact h.mm hx
  refine ⟨hq, ⟨Ob.cast (h.d.ob.set (1 + p) v') (m_set _ _ _ hp _), fun i hi => ?_⟩, fun i hi a l c he => ?_, h.mm, h.mB⟩
  · by_cases he : i = p
    · subst he
      rw [upd_same, upd_same]
      exact hr.kept hk fun a l c he hm => (hv a l c he).2.1 hm
    · rw [upd_other _ _ he, upd_other _ _ he]
      exact (h.d.rd i hi).kept hk fun a l c he' hm => (h.ap i hi a l c he').2.1 hm
  · by_cases hi' : i = p
    · subst hi'; rw [upd_same] at he; rw [Go.Deep.nblk_setCell]; exact hv a l c he
    · rw [upd_other _ _ hi'] at he; rw [Go.Deep.nblk_setCell]; exact h.ap i hi a l c he
/-- either of two, in a head -/
theorem hd_act2 {P : Program} {M : Nat → Prop} {Q : Exit → Act → World → Prop} {l : List Oper} {n fuel : Nat} {listed : Array Bool} {a : Act} {W : World} (i k : Nat) {o p : Oper} (ho : l[i]? = some o) (hp : l[k]? = some p)
    (hok : (Region.ready .any l.toArray listed == [i, k] && decide (0 < fuel) && decide (i < n) && decide (k < n)) = true) (h1 : goAt P M Q l.toArray o a W (fun a' w' => Heads P M Q l n (fuel - 1) (listed.setIfInBounds i true) a' w'))
    (h2 : goAt P M Q l.toArray p a W (fun a' w' => Heads P M Q l n (fuel - 1) (listed.setIfInBounds k true) a' w')) : Heads P M Q l n fuel listed a W := by
  simp only [Bool.and_eq_true, beq_iff_eq, decide_eq_true_eq] at hok
  obtain ⟨fuel, rfl⟩ : ∃ f, fuel = f + 1 := ⟨fuel - 1, by omega⟩
  have key : ∀ (j : Nat) (o : Oper), l[j]? = some o → j < n → goAt P M Q l.toArray o a W (fun a' w' => Heads P M Q l n (fuel + 1 - 1) (listed.setIfInBounds j true) a' w') →
      j < n ∧ wpOp P l.toArray (NoPanic Q) j (fun a' w' => Kept M W w' ∧ wpHead P .any l.toArray (NoPanic Q) (Kept M W) n (TailOk P Q l n) fuel (listed.setIfInBounds j true) a' w') a W := by
    intro j o ho hj h
    have ho' : l.toArray[j]? = some o := by simpa using ho
    refine ⟨hj, ?_⟩
    unfold wpOp
    simp only [ho']
    unfold goAt at h
    by_cases hw : Region.wanted o (yielded l.toArray a.tmps) = true
    · rw [if_pos hw] at h ⊢
      exact .inl (h _ fun a' w' hk' hn => ⟨hk', wpHead_mono (fun x hx => hk'.trans hx) fuel _ a' w' hn⟩)
    · rw [if_neg hw] at h ⊢
      exact ⟨Kept.refl _ _, h⟩
  refine ⟨by rw [hok.1.1.1]; simp, fun j hj => ?_⟩
  rw [hok.1.1.1] at hj
  have hj' : j = i ∨ j = k := by simpa using hj
  rcases hj' with rfl | rfl
  · exact key j o ho hok.1.2 h1
  · exact key j p hp hok.2 h2
theorem below_setM {B : Nat} {w w' : World} {a : Addr} {v : Value} (h : Below B w w') (ha : B ≤ a.block) : Below B w (w'.setCell a v) :=
  ⟨h.os, h.tape, h.output, by rw [Go.Deep.nblk_setCell]; exact h.size, fun b hb => (Go.Deep.blk_setCell_other w' a v b (by omega)).trans (h.block b hb)⟩
theorem drop_box (y : Bx) (r : List Bx) : (((y :: r).flatMap Bx.box).drop (1 * 2)).take (r.length * 2) = r.flatMap Bx.box := by
  rw [List.flatMap_cons, show (Bx.box y ++ r.flatMap Bx.box).drop (1 * 2) = r.flatMap Bx.box from rfl]
  rw [List.take_of_length_le (by rw [flat_len rowBox]; exact Nat.le_refl _)]
/-- the first q of a line -/
theorem rd_first {w : World} {l : List Bx} {b o cap : Nat} (h : Rd w 2 (.slice (some ⟨b, o, none⟩) l.length cap) l.length (l.flatMap Bx.box)) (q : Nat) (hq : q ≤ l.length) (hc : 0 < cap) :
    Rd w 2 (.slice (some ⟨b, o, none⟩) q cap) (l.take q).length ((l.take q).flatMap Bx.box) := by
  have h1 := h.sub 0 q (Nat.zero_le _) hq
  unfold slAddr at h1
  rw [if_neg (by omega), Option.map_some, addr_add, Nat.zero_mul, Nat.add_zero, List.drop_zero, Nat.sub_zero, Nat.sub_zero, flat_take rowBox] at h1
  rw [List.length_take, Nat.min_eq_left hq]
  exact h1
/-- what stands behind the first q -/
theorem rd_behind {w : World} {l : List Bx} {b o cap : Nat} (h : Rd w 2 (.slice (some ⟨b, o, none⟩) l.length cap) l.length (l.flatMap Bx.box)) (q : Nat) (hq : q ≤ l.length) :
    Rd w 2 (.slice (slAddr (some ⟨b, o, none⟩) cap q 2) (l.length - q) (cap - q)) (l.drop q).length ((l.drop q).flatMap Bx.box) := by
  have h1 := h.sub q l.length hq (Nat.le_refl _)
  rw [flat_drop rowBox] at h1
  rw [List.length_drop]
  have h2 : ((l.drop q).flatMap Bx.box).take ((l.length - q) * 2) = (l.drop q).flatMap Bx.box := List.take_of_length_le (by rw [flat_len rowBox, List.length_drop]; exact Nat.le_refl _)
  rw [h2] at h1
  exact h1
theorem box_one (l : List Bx) : ∀ u ∈ l.flatMap Bx.box, u.oneCell' = true := by
  intro u hu
  rw [List.mem_flatMap] at hu
  obtain ⟨x, _, hx⟩ := hu
  simp only [Bx.box, List.mem_cons, List.not_mem_nil, or_false] at hx
  rcases hx with rfl | rfl <;> rfl
end Go.Proofs.Ytodkcbglbolfhaa
