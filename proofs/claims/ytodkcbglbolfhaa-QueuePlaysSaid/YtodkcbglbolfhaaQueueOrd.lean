/- The law QueueOrder (chapter 12), walked. -/
import Derived.Test.YtodkcbglbolfhaaQueueLaw
namespace Go.Proofs.Ytodkcbglbolfhaa
open Go.RowKit

def rnd (l : List Int) (i : Nat) : Nat := ((l[i]?).getD 0 % 8).toNat
theorem rnd_lt (l : List Int) (i : Nat) : rnd l i < 8 := by unfold rnd; omega
theorem rnd_eq (l : List Int) (i : Nat) (h : i < l.length) : l[i] % 8 = (rnd l i : Int) := by
  unfold rnd; rw [List.getElem?_eq_getElem h, Option.getD_some]; omega
theorem up_lt {α : Type} (f : Nat → α) (p i : Nat) (x : α) : upd f p x i = if i = p then x else f i := rfl
/-- what was pushed, each in its line -/
structure Full (l : List Int) (k : Nat) (L : Nat → List Bx) : Prop where
  mem : ∀ p, p < 8 → ∀ x ∈ L p, ∃ i : Nat, x = ⟨10, (i : Int)⟩ ∧ i < k ∧ rnd l i = p
  inc : ∀ p, p < 8 → (L p).Pairwise (fun x y => x.v < y.v)
  len : lenTo L 8 = k
theorem full_nil (l : List Int) : Full l 0 (fun _ => []) := ⟨fun p _ x hx => (by cases hx), fun p _ => List.Pairwise.nil, rfl⟩
theorem full_push {l : List Int} {k : Nat} {L : Nat → List Bx} (h : Full l k L) : Full l (k + 1) (upd L (rnd l k) (L (rnd l k) ++ [⟨10, (k : Int)⟩])) := by
  refine ⟨fun p hp x hx => ?_, fun p hp => ?_, ?_⟩
  · rw [up_lt] at hx
    split at hx
    · rename_i he
      subst he
      rcases List.mem_append.1 hx with hx | hx
      · obtain ⟨i, h1, h2, h3⟩ := h.mem _ hp x hx; exact ⟨i, h1, by omega, h3⟩
      · rw [List.mem_singleton] at hx; exact ⟨k, hx, by omega, rfl⟩
    · obtain ⟨i, h1, h2, h3⟩ := h.mem p hp x hx; exact ⟨i, h1, by omega, h3⟩
  · rw [up_lt]
    split
    · rename_i he
      subst he
      refine List.pairwise_append.2 ⟨h.inc _ hp, List.pairwise_singleton _ _, fun x hx y hy => ?_⟩
      obtain ⟨i, rfl, h2, _⟩ := h.mem _ hp x hx
      rw [List.mem_singleton] at hy
      subst hy
      show (i : Int) < (k : Int)
      omega
    · exact h.inc p hp
  · have := lenTo_upd L (rnd l k) (rnd_lt l k) (L (rnd l k) ++ [⟨10, (k : Int)⟩])
    rw [List.length_append, List.length_singleton, h.len] at this
    omega
/-- what is still to come -/
structure Rest (l : List Int) (n j : Nat) (last at' : Int) (L : Nat → List Bx) : Prop where
  mem : ∀ p, p < 8 → ∀ x ∈ L p, ∃ i : Nat, x = ⟨10, (i : Int)⟩ ∧ i < n ∧ rnd l i = p
  inc : ∀ p, p < 8 → (L p).Pairwise (fun x y => x.v < y.v)
  low : ∀ p : Nat, p < 8 → ∀ x ∈ L p, (p : Int) ≤ last ∧ ((p : Int) = last → at' < x.v)
  len : lenTo L 8 + j = n
theorem rest_start {l : List Int} {n : Nat} {L : Nat → List Bx} (h : Full l n L) : Rest l n 0 8 (-1) L :=
  ⟨h.mem, h.inc, fun p hp x _ => ⟨by omega, fun he => by omega⟩, by rw [h.len]; rfl⟩
theorem rest_pop {l : List Int} {n j : Nat} {last at' : Int} {L : Nat → List Bx} (h : Rest l n j last at' L) {p : Nat} (hp : p < 8) {x : Bx} {r : List Bx} (hl : L p = x :: r) (ha : ∀ i, p < i → i < 8 → L i = []) :
    Rest l n (j + 1) p x.v (upd L p r) ∧ ∃ i : Nat, x = ⟨10, (i : Int)⟩ ∧ i < n ∧ rnd l i = p ∧ (p : Int) ≤ last ∧ ((p : Int) = last → at' < (i : Int)) := by
  obtain ⟨i, hx, h2, h3⟩ := h.mem p hp x (by rw [hl]; simp)
  have h4 := h.low p hp x (by rw [hl]; simp)
  have hin := h.inc p hp
  rw [hl] at hin
  have hin2 := List.pairwise_cons.1 hin
  refine ⟨⟨fun q hq y hy => ?_, fun q hq => ?_, fun q hq y hy => ?_, ?_⟩, i, hx, h2, h3, h4.1, fun he => by have := h4.2 he; rw [hx] at this; exact this⟩
  · rw [up_lt] at hy
    split at hy
    · rename_i he; subst he; exact h.mem q hq y (by rw [hl]; simp [hy])
    · exact h.mem q hq y hy
  · rw [up_lt]
    split
    · exact hin2.2
    · exact h.inc q hq
  · rw [up_lt] at hy
    split at hy
    · rename_i he; subst he
      exact ⟨Int.le_refl _, fun _ => hin2.1 y hy⟩
    · rename_i he
      have : q < p := by
        rcases Nat.lt_or_ge p q with h5 | h5
        · rw [ha q h5 hq] at hy; cases hy
        · omega
      exact ⟨by omega, fun he => by omega⟩
  · have h5 := lenTo_upd L p hp r
    have h6 := h.len
    rw [hl, List.length_cons] at h5
    omega
theorem sz10 (i : Int) : (⟨10, i⟩ : Bx).sz = 10 := by show clampI 10 0 1073741824 = 10; decide

set_option maxRecDepth 100000 in
set_option maxHeartbeats 4000000 in
theorem order_in (l : List Int) (v : Value) (w : World) (h : Rd w 1 v l.length (l.map (Value.int .i64))) (hl : l.length ≤ 100) : Calls Try.prog 3 #[v] w (TrueBelow w) := by
  obtain ⟨v, cp, rfl, h1, h2⟩ := h.form
  have HR := Lib.hid h
  clear h
  go_enter Try.func3, Try.ntmps3
  go_wp2_with fail
  refine (qnew_yes 1048576 _ (by decide)).mono ?_
  rintro e w1 ⟨rfl, hq, hb1⟩
  have HQ := Lib.hid hq
  have HB := Lib.hid hb1
  clear hq hb1
  go_wp2_with fail
  generalize hB : w.heap.size = B at *
  have HBQ := Lib.hid hB
  clear hB
  go_loopw [5] (fun i wr => ∃ (k : Nat) (V : Nat → Value) (L : Nat → List Bx), i = .int .i64 k ∧ k ≤ l.length ∧ Qu B B V 1048576 (10 * k) L wr ∧ Full l k L ∧ Below B w wr) (fun i _ => l.length - (intOf i).toNat)
  case atStart => exact ⟨0, _, _, rfl, by omega, HQ.out, full_nil l, HB.out⟩
  case round =>
    obtain ⟨k, V, L, rfl, hk, hq, hf, hbw⟩ := hrel
    have HQ := Lib.hid hq
    have HF := Lib.hid hf
    have HBW := Lib.hid hbw
    clear hq hf hbw
    by_cases hlt : k < l.length
    · have hRd := HR.out.below (by rw [HBQ.out]; exact HBW.out)
      obtain ⟨b, o, rfl, c0⟩ := hRd.at k hlt
      have HRN := Lib.hid (rnd_eq l k hlt)
      have hrl := rnd_lt l k
      have hll : (L (rnd l k)).length ≤ 1000000 := by have := lenTo_ge L _ hrl; have := HF.out.len; omega
      have HP := Lib.hid (push_yes B B V 1048576 (10 * k) L (rnd l k) ⟨10, (k : Int)⟩ _ HQ.out hrl (by decide) (by omega) (by rw [sz10]; omega) hll)
      generalize l[k] = x at c0 HRN
      clear hRd hll
      go_wp2_with fail
      refine (round_any _ _ _ (by decide) (by decide)).mono ?_
      rintro e w2 ⟨rfl, rfl⟩
      rw [HRN.out]
      go_wp2_with fail
      refine HP.out.mono ?_
      rintro e w3 ⟨rfl, V', hq', hk', _⟩
      have HQ' := Lib.hid hq'
      have HBW' := Lib.hid (HBW.out.trans (HQ.out.keptB hk'))
      clear hq' hk'
      go_wp2_with fail
      go_roundw
      case rel => exact ⟨k + 1, V', _, by go_num, by omega, by have := HQ'.out; rw [sz10] at this; rw [show (10 : Int) * ((k + 1 : Nat) : Int) = 10 * (k : Int) + 10 by omega]; exact this, full_push HF.out, HBW'.out⟩
      case measure => simp [intOf]; omega
    · obtain rfl : k = l.length := by omega
      go_wp2_with fail
      go_loopw [6, 7, 8] (fun la at' i wq => ∃ (j : Nat) (la' at'' : Int) (V : Nat → Value) (L : Nat → List Bx), la = .int .i64 la' ∧ at' = .int .i64 at'' ∧ i = .int .i64 j ∧ j ≤ l.length ∧ Qu B B V 1048576 (10 * (lenTo L 8 : Int)) L wq ∧ Rest l l.length j la' at'' L ∧ Below B w wq) (fun _ _ i _ => l.length - (intOf i).toNat)
      case atStart => exact ⟨0, 8, -1, V, L, rfl, rfl, rfl, by omega, by rw [HF.out.len]; exact HQ.out, rest_start HF.out, HBW.out⟩
      case round =>
        obtain ⟨j, la, at', V2, L2, rfl, rfl, rfl, hj, hq, hr, hbw⟩ := hrel
        have HQ2 := Lib.hid hq
        have HR2 := Lib.hid hr
        have HBW2 := Lib.hid hbw
        have hlen := hr.len
        clear hq hr hbw
        by_cases hlt2 : j < l.length
        · go_wp2_with fail
          refine (pop_any _ _ _ _ _ _ _ HQ2.out (by
            intro p x r hp hl
            have h5 := lenTo_ge L2 p hp
            obtain ⟨i, hx, _⟩ := HR2.out.mem p hp x (by rw [hl]; simp)
            rw [hl, List.length_cons] at h5
            rw [hx, sz10]; omega) (by omega)).mono ?_
          rintro e w3 (⟨_, hn, _⟩ | ⟨p, x, r, V3, hp, hlp, habove, rfl, hq3, hk3, _⟩)
          · have := lenTo_nil L2 hn; omega
          obtain ⟨hr3, i, hx, hi, hri, hple, hpat⟩ := rest_pop HR2.out hp hlp habove
          have hl3 := hr3.len
          have HQ3 := Lib.hid hq3
          have HR3 := Lib.hid hr3
          have HBW3 := Lib.hid (HBW2.out.trans (HQ2.out.keptB hk3))
          have hRd := HR.out.below (by rw [HBQ.out]; exact HBW3.out)
          obtain ⟨b, o, rfl, c0⟩ := hRd.at i hi
          have HRN := Lib.hid (rnd_eq l i hi)
          have HRI := Lib.hid hri
          generalize l[i] = y at c0 HRN
          have HX := Lib.hid hx
          subst hx
          unfold boxV
          clear hlp habove hq3 hk3 hr3 hRd hri
          have s3 := HBW3.out.size
          have HQF : Hid (∀ n, Qu B B V3 1048576 (10 * (lenTo (upd L2 p r) 8 : Int)) (upd L2 p r) ((w3.alloc (.cells #[.int .i64 10, .int .i64 i] 29)).drewN n)) := Lib.hid (fun n => by
            have hq := (HQ3.out.alloc (.cells #[.int .i64 10, .int .i64 i] 29)).dn (n := n)
            rw [sz10] at hq
            rw [show 10 * (lenTo (upd L2 p r) 8 : Int) = 10 * (lenTo L2 8 : Int) - 10 by omega]; exact hq)
          have hbl : b < w3.heap.size := World.block_lt_of_cell? w3 _ c0
          have HPA := Lib.hid hpat
          clear hpat
          by_cases hpl : (p : Int) = la
          all_goals
            have hpb : ((p : Int) == la) = _ := (by first | exact beq_iff_eq.2 hpl | exact beq_eq_false_iff_ne.2 hpl)
            have hat : (p : Int) = la → at' < (i : Int) := HPA.out
            first | (replace hat := hat hpl) | clear hat
            clear hpl
            go_wp2_with fail
            refine (round_any _ _ _ (by decide) (by decide)).mono ?_
            rintro e w4 ⟨rfl, rfl⟩
            rw [HRN.out, HRI.out]
            go_wp2_with fail
            go_quiet (fail)
            go_wp2_with fail
            go_roundw
            case rel => exact ⟨j + 1, _, _, V3, _, rfl, rfl, by go_num, by omega, HQF.out _, HR3.out, below_dn (HBW3.out.alloc (by rw [← HBQ.out]; exact s3) _)⟩
            case measure => simp [intOf]; omega
        · have hz : lenTo L2 8 = 0 := by omega
          have HLE := Lib.hid (len_any _ _ _ _ _ _ _ HQ2.out (fun i hi => by have := lenTo_ge L2 i hi; omega))
          have HUS := Lib.hid (used_any _ _ _ _ _ _ _ HQ2.out)
          rw [hz] at HLE HUS
          go_wp2_with fail
          refine HLE.out.mono ?_
          rintro e w3 ⟨rfl, rfl⟩
          go_wp2_with fail
          refine HUS.out.mono ?_
          rintro e w3 ⟨rfl, rfl⟩
          go_wp2_with fail
          refine (awake_any _).mono ?_
          rintro e w4 ⟨rfl, hb4⟩
          go_wp2_with fail
          go_ret
          refine ⟨rfl, ?_⟩
          rw [HBQ.out]
          exact HBW2.out.trans (hb4.mono (by rw [← HBQ.out]; exact HBW2.out.size))
theorem order_any (l : List Int) (v : Value) (w : World) (h : Rd w 1 v l.length (l.map (Value.int .i64))) : Calls Try.prog 3 #[v] w (TrueBelow w) := by
  by_cases hl : l.length ≤ 100
  · exact order_in l v w h hl
  · obtain ⟨v, cp, rfl, h1, h2⟩ := h.form
    clear h
    go_enter Try.func3, Try.ntmps3
    go_wp2_with fail
    refine (awake_any _).mono ?_
    rintro e w2 ⟨rfl, hb⟩
    go_wp2_with fail
    go_ret
    exact ⟨rfl, hb⟩
end Go.Proofs.Ytodkcbglbolfhaa
