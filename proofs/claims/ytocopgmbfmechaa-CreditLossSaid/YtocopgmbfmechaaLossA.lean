/- Credits that were sent (chapter 19): how it lies; Sent, Used, Window. -/
import Derived.Test.YtocopgmbfmechaaCreditLaw
import Derived.Test.YtocopgmbfmechaaTail
import Derived.Test.YtocopgmbfmechaaIns
import Derived.Maps.OwnSet
import Derived.Maps.OwnOps
import Derived.Maps.Views
import Derived.WideLaws
import Derived.Deep.CutBlock
namespace Go.Proofs.Ytocopgmbfmechaa
open Go.RowKit

abbrev TLo : TypeId := 44
abbrev TMp : TypeId := 42
abbrev TNt : TypeId := 3
theorem keyed : Maps.Keyed Try.prog TNt := Maps.int_keyed Try.underlying3
theorem zero_nt (w : World) : (zeroValue TNt).run Try.prog w = .ok (.int .i64 0) w := by kernel_rfl
def I64 (k : Int) : Prop := -9223372036854775808 ≤ k ∧ k ≤ 9223372036854775807
theorem wf_of {k : Int} (h : I64 k) : (Lit.int .i64 k).wf = true := by
  have h : -9223372036854775808 ≤ k ∧ k ≤ 9223372036854775807 := h
  simpa [Lit.wf, IntKind.min, IntKind.max, IntKind.signed, IntKind.bits] using h
theorem key_of {k : Int} (h : I64 k) : keyOf Try.prog TNt (.int .i64 k) = some (.int .i64 k) := Maps.keyOf_int_mk Try.underlying3 (wf_of h)
def updI (c : Int → Int) (k v : Int) : Int → Int := fun j => if j = k then v else c j
/-- block M is a map that holds the counts c -/
def Mp (w : World) (M n : Nat) (c : Int → Int) : Prop := ∃ D : DataW Unit, w.ownsMap Try.prog TNt (plainElem Try.prog TNt) M n D ∧ Maps.IsMap D ∧ ∀ k, I64 k → D.atKey (.int .i64 k) (.lit (.int .i64 0)) = .lit (.int .i64 (c k))
theorem mp_look {w : World} {M n : Nat} {c : Int → Int} (h : Mp w M n c) {k : Int} (hk : I64 k) : (Instr.lookup TMp (.map (some M)) (.int .i64 k) false).run Try.prog w = .ok (.int .i64 (c k)) w := by
  obtain ⟨D, h1, h2, h3⟩ := h
  obtain ⟨x, hr, hx, _⟩ := h1.lookup_int keyed Try.underlying42 Try.underlying3 (zero_nt w) (key_of hk)
  rw [h3 k hk] at hx
  injection hx with hx
  injection hx with _ hx
  rw [hr, hx]
theorem mp_put {w : World} {M n : Nat} {c : Int → Int} (h : Mp w M n c) (hn : n < maxLen) {k v : Int} (hk : I64 k) (hv : I64 v) : ∃ w', (Instr.mapUpdate TMp (.map (some M)) (.int .i64 k) (.int .i64 v)).run Try.prog w = .ok () w' ∧ Mp w' M (n + 1) (updI c k v) ∧ w.grownBy w' (some M) := by
  obtain ⟨D, h1, h2, h3⟩ := h
  obtain ⟨w', hr, h4, h5⟩ := h1.update keyed Try.underlying42 hn (key_of hk) (plainElem_int Try.underlying3 (wf_of hv))
  refine ⟨w', hr, ⟨_, h4, h2.put _ _, fun j hj => ?_⟩, h5⟩
  unfold updI
  by_cases hjk : j = k
  · subst hjk
    rw [if_pos rfl]
    exact Maps.atKey_put_same h2 (k := .int .i64 j) (show WideAt.IsKeyLit (.int .i64 j) from trivial) _ _
  · rw [if_neg hjk, ← h3 j hj]
    exact Maps.atKey_put_other (fun e => hjk (by injection e)) _ _
theorem mp_del {w : World} {M n : Nat} {c : Int → Int} (h : Mp w M n c) {k : Int} (hk : I64 k) (ty : TypeId) : ∃ w', (Builtin.delete_ #[TMp, TNt] ty #[.map (some M), .int .i64 k]).run Try.prog w = .ok (.tuple #[]) w' ∧ Mp w' M n (updI c k 0) ∧ w.grownBy w' (some M) := by
  obtain ⟨D, h1, h2, h3⟩ := h
  obtain ⟨w', hr, h4, h5⟩ := h1.drop keyed Try.underlying42 (key_of hk) ty
  refine ⟨w', hr, ⟨_, h4, h2.del _, fun j hj => ?_⟩, h5.grown⟩
  unfold updI
  by_cases hjk : j = k
  · subst hjk
    rw [if_pos rfl]
    exact Maps.atKey_del_same _
  · rw [if_neg hjk, ← h3 j hj]
    exact Maps.atKey_del_other (fun e => hjk (by injection e)) _
theorem mp_kept {w w' : World} {M n : Nat} {c : Int → Int} (h : Mp w M n c) {N : Nat → Prop} (hk : Kept N w w') (hM : ¬ N M) : Mp w' M n c := by
  obtain ⟨D, ⟨es, clock, h1, h2, h3, h4⟩, h5, h6⟩ := h
  exact ⟨D, ⟨es, clock, hk.heap h1 hM, h2, h3, h4⟩, h5, h6⟩
theorem mp_lt {w : World} {M n : Nat} {c : Int → Int} (h : Mp w M n c) : M < w.heap.size := by
  obtain ⟨D, h1, _⟩ := h
  exact h1.lt
theorem mp_new (w : World) : Mp (w.alloc (.map #[] 0)) w.heap.size 0 (fun _ => 0) := ⟨.map [], World.ownsMap_made _ _ _ _, Maps.isMap_empty, fun _ _ => rfl⟩
/-- what was sent, at block b -/
structure Lo (b B : Nat) (mp : Option Nat) (S U : Int) (c : Int → Int) (n : Nat) (w : World) : Prop where
  ob : Ob w b #[.int .i64 S, .int .i64 U, .map mp] TLo
  nn : mp = none → c = fun _ => 0
  mm : ∀ M, mp = some M → Mp w M n c ∧ M ≠ b ∧ B ≤ M
  bb : B ≤ b
def LM (b : Nat) (mp : Option Nat) : Nat → Prop := fun x => x = b ∨ mp = some x
section
variable {b B n : Nat} {mp : Option Nat} {S U : Int} {c : Int → Int} {w w' : World}
theorem Lo.kept {N : Nat → Prop} (h : Lo b B mp S U c n w) (hk : Kept N w w') (hN : ∀ x, LM b mp x → ¬ N x) : Lo b B mp S U c n w' :=
  ⟨h.ob.kept hk (hN b (.inl rfl)), h.nn, fun M hM => ⟨mp_kept (h.mm M hM).1 hk (hN M (.inr hM)), (h.mm M hM).2⟩, h.bb⟩
theorem Lo.keptF (h : Lo b B mp S U c n w) (hk : Kept (fun _ => False) w w') : Lo b B mp S U c n w' := h.kept hk fun _ _ hh => hh
theorem Lo.lt (h : Lo b B mp S U c n w) : ∀ x, LM b mp x → B ≤ x ∧ x < w.heap.size := by
  rintro x (rfl | hx)
  · exact ⟨h.bb, h.ob.lt⟩
  · exact ⟨(h.mm x hx).2.2, mp_lt (h.mm x hx).1⟩
def LoPost (b B : Nat) (mp : Option Nat) (S U : Int) (c : Int → Int) (n : Nat) (w w' : World) : Prop := ∃ mp', Lo b B mp' S U c n w' ∧ Kept (LM b mp) w w' ∧ ∀ x, LM b mp' x → LM b mp x ∨ w.heap.size ≤ x
theorem LoPost.below {S' U' : Int} {c' : Int → Int} {n' : Nat} (h : LoPost b B mp S' U' c' n' w w') (hw : Lo b B mp S U c n w) : Below B w w' := by
  obtain ⟨mp', h1, h2, _⟩ := h
  exact h2.belowAt (by have := hw.bb; have := hw.ob.lt; omega) (fun x hx => (hw.lt x hx).1)
end
theorem Kept.comp5 {M N : Nat → Prop} {w w1 w2 : World} (h1 : Kept M w w1) (h2 : Kept N w1 w2) (hN : ∀ x, N x → M x ∨ w.heap.size ≤ x) : Kept M w w2 := by
  refine ⟨h2.os.trans h1.os, h2.tape.trans h1.tape, h2.output.trans h1.output, Nat.le_trans h1.size h2.size, fun b hb hn => ?_⟩
  rw [h2.block b (Nat.lt_of_lt_of_le hb h1.size) (fun hh => by rcases hN b hh with h | h; exact hn h; omega)]
  exact h1.block b hb hn
theorem kept_exL {w W : World} (h : ∃ n, W = w.drewN n) : Kept (fun _ => False) w W := by
  obtain ⟨n, rfl⟩ := h
  exact Kept.dn _ _ _
theorem eqlNil (w : World) : (binOp .eql TMp (.map none) (.map none)).run Try.prog w = .ok (.bool true) w := by kernel_rfl
theorem eqlSome (M : Nat) (w : World) : (binOp .eql TMp (.map (some M)) (.map none)).run Try.prog w = .ok (.bool false) w := by kernel_rfl
theorem sentnil (q : Int) (w : World) : Calls Try.prog 14 #[.pointer none, .int .i64 q] w fun e w' => e = .returned (.tuple #[]) ∧ w = w' := by
  go_enter Try.func14, Try.ntmps14
  go_wp2_with fail
  exact done (.tuple #[]) rfl (by simp [results, Try.results14, go_sem]) ⟨rfl, rfl⟩
theorem windownil (w : World) : Calls Try.prog 16 #[.pointer none] w fun e w' => e = .returned (.tuple #[.int .i64 0, .int .i64 0]) ∧ w = w' := by
  go_enter Try.func16, Try.ntmps16
  go_wp2_with fail
  go_ret2
  exact ⟨rfl, rfl⟩
theorem Kept.of_grownO {M : Nat} {w w' : World} (h : w.grownBy w' (some M)) : Kept (Only M) w w' := Kept.of_grown h (fun b hb => by injection hb with hb; exact hb.symm)
set_option maxRecDepth 100000 in
set_option maxHeartbeats 2000000 in
theorem sent_lo (b B : Nat) (mp : Option Nat) (S U : Int) (c : Int → Int) (n : Nat) (q : Int) (w : World) (h : Lo b B mp S U c n w) (hq : I64 q) (hS : 0 ≤ S ∧ S ≤ 1000000) (hn : n ≤ 1000000) (hc : 0 ≤ c q ∧ c q ≤ 1000000) :
    Calls Try.prog 14 #[.pointer (some ⟨b, 0, none⟩), .int .i64 q] w fun e w' => e = .returned (.tuple #[]) ∧ LoPost b B mp (S + 1) U (updI c q (c q + 1)) (n + 1) w w' := by
  have HL := Lib.hid h
  have HQ := Lib.hid hq
  obtain ⟨lb, cb, fb⟩ := h.ob.blk
  have c0 : w.cell? ⟨b, 0, none⟩ = some (.int .i64 S) := cb 0
  have c2 : w.cell? ⟨b, 2, none⟩ = some (.map mp) := cb 2
  obtain ⟨s0, s1⟩ := hS
  obtain ⟨q0, q1⟩ := hc
  clear cb h hq
  have e1 := eqlNil
  have e2 := eqlSome
  have hmm := @run_makeMap Try.prog
  cases mp with
  | none =>
    go_enter Try.func14, Try.ntmps14
    go_upto_region 4 with fail
    have hlt := HL.out.ob.lt
    have HC0 := Lib.hid (HL.out.nn rfl)
    have hbX : w.heap.size ≠ b := by omega
    have hsz : ((w.setCell ⟨b, 2, none⟩ (.map (some w.heap.size))).setCell ⟨b, 0, none⟩ (.int .i64 (S + 1))).heap.size = w.heap.size := by
      rw [Go.Deep.nblk_setCell, Go.Deep.nblk_setCell]
    have hl4 : Lo b B (some w.heap.size) (S + 1) U c n (((w.setCell ⟨b, 2, none⟩ (.map (some w.heap.size))).setCell ⟨b, 0, none⟩ (.int .i64 (S + 1))).alloc (.map #[] 0)) := by
      refine ⟨Ob.cast (((HL.out.ob.set 2 _).set 0 _).alloc _) rfl, fun hh => (by cases hh), fun M' hM' => ?_, HL.out.bb⟩
      cases hM'
      have hm0 := mp_new ((w.setCell ⟨b, 2, none⟩ (.map (some w.heap.size))).setCell ⟨b, 0, none⟩ (.int .i64 (S + 1)))
      rw [hsz] at hm0
      obtain ⟨D, h1, h2, h3⟩ := hm0
      exact ⟨⟨D, h1.mono (Nat.zero_le _), h2, fun k hk => by rw [HC0.out]; exact h3 k hk⟩, hbX, by have := HL.out.bb; omega⟩
    have HK4 := Lib.hid ((((Kept.refl (LM b none) w).set ⟨b, 2, none⟩ (.map (some w.heap.size)) (fun _ => .inl rfl)).set ⟨b, 0, none⟩ (.int .i64 (S + 1)) (fun _ => .inl rfl)).alloc (.map #[] 0))
    have HL4 := Lib.hid hl4
    clear hsz
    generalize ((w.setCell ⟨b, 2, none⟩ (.map (some w.heap.size))).setCell ⟨b, 0, none⟩ (.int .i64 (S + 1))).alloc (.map #[] 0) = w4 at *
    obtain ⟨M, HMM⟩ : ∃ M, Hid (w.heap.size = M) := ⟨_, Lib.hid rfl⟩
    rw [HMM.out] at hl4 HL4 hbX
    have hmb : M ≠ b := hbX
    have hmB : B ≤ M := (hl4.mm M rfl).2.2
    clear c0 c2 lb fb
    obtain ⟨lb, cb, fb⟩ := hl4.ob.blk
    have c2 : w4.cell? ⟨b, 2, none⟩ = some (.map (some M)) := cb 2
    obtain ⟨hm, _, _⟩ := hl4.mm M rfl
    have hlk := mp_look hm HQ.out
    obtain ⟨w5, hup, hm5, hg5⟩ := mp_put hm (by unfold maxLen; omega) HQ.out (v := c q + 1) ⟨by omega, by omega⟩
    have HM5 := Lib.hid hm5
    have HK5 := Lib.hid (Kept.of_grownO hg5)
    clear cb hl4 hm hm5 hg5
    go_wp2_with fail
    go_end0
    refine ⟨rfl, some M, ⟨HL4.out.ob.kept HK5.out (fun hh => hmb hh.symm), fun hh => (by cases hh), fun M' hM' => ?_, HL4.out.bb⟩, HK4.out.comp5 HK5.out (by rw [HMM.out]; exact fun x hx => .inr (by rw [show x = M from hx]; exact Nat.le_refl _)), fun x hx => ?_⟩
    · cases hM'
      exact ⟨HM5.out, hmb, hmB⟩
    · rcases hx with rfl | hx
      · exact .inl (.inl rfl)
      · cases hx
        exact .inr (by rw [HMM.out]; exact Nat.le_refl _)
  | some M =>
    obtain ⟨hm, hmb, hmB⟩ := HL.out.mm M rfl
    go_enter Try.func14, Try.ntmps14
    go_upto_region 4 with fail
    have hl4 : Lo b B (some M) (S + 1) U c n (w.setCell ⟨b, 0, none⟩ (.int .i64 (S + 1))) := by
      refine ⟨Ob.cast (HL.out.ob.set 0 _) rfl, HL.out.nn, fun M' hM' => ?_, HL.out.bb⟩
      cases hM'
      exact ⟨mp_kept hm ((Kept.refl (Only b) w).setO) hmb, hmb, hmB⟩
    have HK4 := Lib.hid ((Kept.refl (LM b (some M)) w).set ⟨b, 0, none⟩ (.int .i64 (S + 1)) (fun _ => .inl rfl))
    have HL4 := Lib.hid hl4
    generalize w.setCell ⟨b, 0, none⟩ (.int .i64 (S + 1)) = w4 at *
    clear c0 c2 lb fb hm
    obtain ⟨lb, cb, fb⟩ := hl4.ob.blk
    have c2 : w4.cell? ⟨b, 2, none⟩ = some (.map (some M)) := cb 2
    obtain ⟨hm, _, _⟩ := hl4.mm M rfl
    have hlk := mp_look hm HQ.out
    obtain ⟨w5, hup, hm5, hg5⟩ := mp_put hm (by unfold maxLen; omega) HQ.out (v := c q + 1) ⟨by omega, by omega⟩
    have HM5 := Lib.hid hm5
    have HK5 := Lib.hid (Kept.of_grownO hg5)
    clear cb hl4 hm hm5 hg5
    go_wp2_with fail
    go_end0
    refine ⟨rfl, some M, ⟨HL4.out.ob.kept HK5.out (fun hh => hmb hh.symm), fun hh => (by cases hh), fun M' hM' => ?_, HL4.out.bb⟩, HK4.out.trans (HK5.out.mono (fun x _ hx => .inr (by rw [show x = M from hx]))), fun x hx => .inl hx⟩
    cases hM'
    exact ⟨HM5.out, hmb, hmB⟩
theorem updI_same {c : Int → Int} {q : Int} (h : c q = 0) : updI c q 0 = c := by
  funext j
  unfold updI
  by_cases hj : j = q
  · subst hj; rw [if_pos rfl, h]
  · rw [if_neg hj]
theorem LoPost.same {b B n : Nat} {mp : Option Nat} {S U : Int} {c : Int → Int} {w w' : World} (h : Lo b B mp S U c n w) (hk : Kept (fun _ => False) w w') : LoPost b B mp S U c n w w' := ⟨mp, h.keptF hk, hk.mono (fun _ _ hh => hh.elim), fun _ hx => .inl hx⟩
def usd (c : Int → Int) (q : Int) : Int := if 0 < c q then 1 else 0
set_option maxRecDepth 100000 in
set_option maxHeartbeats 2000000 in
theorem used_lo (b B : Nat) (mp : Option Nat) (S U : Int) (c : Int → Int) (n : Nat) (q : Int) (w : World) (h : Lo b B mp S U c n w) (hq : I64 q) (hU : 0 ≤ U ∧ U ≤ 1000000) (hc : 0 ≤ c q) :
    Calls Try.prog 15 #[.pointer (some ⟨b, 0, none⟩), .int .i64 q] w fun e w' => e = .returned (.tuple #[]) ∧ LoPost b B mp S (U + usd c q) (updI c q 0) n w w' := by
  have HL := Lib.hid h
  have HQ := Lib.hid hq
  obtain ⟨lb, cb, fb⟩ := h.ob.blk
  have c1 : w.cell? ⟨b, 1, none⟩ = some (.int .i64 U) := cb 1
  have c2 : w.cell? ⟨b, 2, none⟩ = some (.map mp) := cb 2
  obtain ⟨s0, s1⟩ := hU
  clear cb h hq
  cases mp with
  | none =>
    have HC0 := Lib.hid (HL.out.nn rfl)
    have hlk := fun (w : World) => Maps.look_nil (P := Try.prog) (w := w) false keyed Try.underlying42 (zero_nt w) (key_of HQ.out)
    go_enter Try.func15, Try.ntmps15
    go_wp2_with fail
    go_end0
    refine ⟨rfl, ?_⟩
    have h0 : c q = 0 := by rw [HC0.out]
    have hu : usd c q = 0 := by unfold usd; rw [h0]; rfl
    rw [hu, updI_same h0, Int.add_zero]
    exact LoPost.same HL.out (Kept.refl _ _)
  | some M =>
    obtain ⟨hm, hmb, hmB⟩ := HL.out.mm M rfl
    have hlk := mp_look hm HQ.out
    obtain ⟨x, HX⟩ : ∃ x, Hid (c q = x) := ⟨_, Lib.hid rfl⟩
    rw [HX.out] at hlk hc
    by_cases hx : 0 < x
    · have hd : decide (0 < x) = true := decide_eq_true hx
      have HU : Hid (usd c q = 1) := Lib.hid (by unfold usd; rw [HX.out]; exact if_pos hx)
      clear hx
      go_enter Try.func15, Try.ntmps15
      go_upto_region 2 with fail
      have hl4 : Lo b B (some M) S (U + 1) c n (w.setCell ⟨b, 1, none⟩ (.int .i64 (U + 1))) := by
        refine ⟨Ob.cast (HL.out.ob.set 1 _) rfl, HL.out.nn, fun M' hM' => ?_, HL.out.bb⟩
        cases hM'
        exact ⟨mp_kept hm ((Kept.refl (Only b) w).setO) hmb, hmb, hmB⟩
      have HK4 := Lib.hid ((Kept.refl (LM b (some M)) w).set ⟨b, 1, none⟩ (.int .i64 (U + 1)) (fun _ => .inl rfl))
      have HL4 := Lib.hid hl4
      generalize w.setCell ⟨b, 1, none⟩ (.int .i64 (U + 1)) = w4 at *
      clear c1 c2 lb fb hm hlk
      obtain ⟨lb, cb, fb⟩ := hl4.ob.blk
      have c2 : w4.cell? ⟨b, 2, none⟩ = some (.map (some M)) := cb 2
      obtain ⟨hm, _, _⟩ := hl4.mm M rfl
      obtain ⟨w5, hup, hm5, hg5⟩ := mp_del hm HQ.out 0
      have HM5 := Lib.hid hm5
      have HK5 := Lib.hid (Kept.of_grownO hg5)
      clear cb hl4 hm hm5 hg5
      go_wp2_with fail
      go_end0
      refine ⟨rfl, ?_⟩
      rw [HU.out]
      refine ⟨some M, ⟨HL4.out.ob.kept HK5.out (fun hh => hmb hh.symm), fun hh => (by cases hh), fun M' hM' => ?_, HL4.out.bb⟩, HK4.out.trans (HK5.out.mono (fun x _ hx => .inr (by rw [show x = M from hx]))), fun x hx => .inl hx⟩
      cases hM'
      exact ⟨HM5.out, hmb, hmB⟩
    · have hd : decide (0 < x) = false := decide_eq_false hx
      have HU : Hid (usd c q = 0) := Lib.hid (by unfold usd; rw [HX.out]; exact if_neg hx)
      have HE := Lib.hid (updI_same (c := c) (q := q) (by rw [HX.out]; omega))
      clear hx hm
      go_enter Try.func15, Try.ntmps15
      go_wp2_with fail
      go_end0
      exact ⟨rfl, by rw [HU.out, HE.out, Int.add_zero]; exact LoPost.same HL.out (Kept.refl _ _)⟩
set_option maxRecDepth 100000 in
set_option maxHeartbeats 2000000 in
theorem window_lo (b B : Nat) (mp : Option Nat) (S U : Int) (c : Int → Int) (n : Nat) (w : World) (h : Lo b B mp S U c n w) (hS : 0 ≤ S ∧ S ≤ 1000000) (hU : 0 ≤ U ∧ U ≤ 1000000) :
    Calls Try.prog 16 #[.pointer (some ⟨b, 0, none⟩)] w fun e w' => e = .returned (.tuple #[.int .i64 S, .int .i64 (S - U)]) ∧ LoPost b B mp 0 0 (fun _ => 0) 0 w w' := by
  have HL := Lib.hid h
  obtain ⟨lb, cb, fb⟩ := h.ob.blk
  have c0 : w.cell? ⟨b, 0, none⟩ = some (.int .i64 S) := cb 0
  have c1 : w.cell? ⟨b, 1, none⟩ = some (.int .i64 U) := cb 1
  obtain ⟨s0, s1⟩ := hS
  obtain ⟨u0, u1⟩ := hU
  have hww : IntKind.i64.wrap (S - U) = S - U := by rw [IntKind.wrap_i64]; omega
  clear cb h
  go_enter Try.func16, Try.ntmps16
  go_wp2_with fail
  refine wp_region_quiet_lit (by kernel_rfl) (by kernel_rfl) ?_
  try simp only [List.append]
  repeat (first | go_big_quiet_step (fail) | quiet_step (fail))
  refine wpQuiet_nil ?_
  intro W hW
  have hk := kept_exL hW
  have HK := Lib.hid hk
  have HLW := Lib.hid (HL.out.keptF hk)
  clear hW c0 c1 lb fb hk
  obtain ⟨lb, cb, fb⟩ := HLW.out.ob.blk
  have c0 : W.cell? ⟨b, 0, none⟩ = some (.int .i64 S) := cb 0
  have c1 : W.cell? ⟨b, 1, none⟩ = some (.int .i64 U) := cb 1
  have c2 : W.cell? ⟨b, 2, none⟩ = some (.map mp) := cb 2
  clear cb
  go_wp2_with fail
  go_ret2
  refine ⟨rfl, none, ⟨Ob.cast (((HLW.out.ob.set 0 (.int .i64 0)).set 1 (.int .i64 0)).set 2 (.map none)) rfl, fun _ => rfl, fun M hM => (by cases hM), HLW.out.bb⟩, ((((HK.out.mono (N := LM b mp) (fun _ _ hh => hh.elim)).set ⟨b, 0, none⟩ (.int .i64 0) (fun _ => .inl rfl)).set ⟨b, 1, none⟩ (.int .i64 0) (fun _ => .inl rfl)).set ⟨b, 2, none⟩ (.map none) (fun _ => .inl rfl)), fun x hx => ?_⟩
  rcases hx with rfl | hx
  · exact .inl (.inl rfl)
  · cases hx
end Go.Proofs.Ytocopgmbfmechaa
