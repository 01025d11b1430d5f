/- A set of ranges (chapter 5): its state, and how it lies; what is made, what may be, what is fresh. -/
import Derived.Test.YtkogodoaejoooaaIvalsRm
import Derived.Test.YtkogodoaejoooaaTail
namespace Go.Proofs.Ytkogodoaejoooaa
open Go.RowKit

abbrev TS : TypeId := 53
structure Is where
  tot : Int
  l : List Rg
/-- the set at block b: its ranges at V -/
structure Iv (b B0 : Nat) (V : Value) (s : Is) (w : World) : Prop where
  ob : Ob w b #[.int .i64 s.tot, V] TS
  own : w.ownsRow B0 TR 2 V s.l.length (s.l.flatMap Rg.row)
  ne : V.ownBlock ≠ some b
  bb : B0 ≤ b
def WM (b : Nat) (V : Value) : Nat → Prop := fun x => x = b ∨ V.ownBlock = some x
theorem own_lt {w : World} {B : Nat} {e : TypeId} {k : Nat} {v : Value} {n : Nat} {xs : List Value} (h : w.ownsRow B e k v n xs) : ∀ x, v.ownBlock = some x → B ≤ x ∧ x < w.heap.size := by
  intro x hx
  rcases h.2 with ⟨rfl, _⟩ | ⟨g, cap, cur, rfl, h1, h2, _⟩
  · cases hx
  · cases hx; exact ⟨h1, heap_lt h2⟩
theorem own_base {w : World} {B B' : Nat} {e : TypeId} {k : Nat} {v : Value} {n : Nat} {xs : List Value} (h : w.ownsRow B e k v n xs) (hB : B' ≤ B) : w.ownsRow B' e k v n xs := by
  refine ⟨h.1, ?_⟩
  rcases h.2 with h2 | ⟨g, cap, cur, hv, hg, r⟩
  · exact .inl h2
  · exact .inr ⟨g, cap, cur, hv, Nat.le_trans hB hg, r⟩
theorem kept_ex {w W : World} (h : ∃ n, W = w.drewN n) : Kept (fun _ => False) w W := by
  obtain ⟨n, rfl⟩ := h
  exact Kept.dn _ _ _
theorem kept_any {M : Nat → Prop} {w w' : World} (h : Kept (fun _ => False) w w') : Kept M w w' := h.mono fun _ _ hh => hh.elim
variable {b B0 : Nat} {V : Value} {s : Is} {w w' : World}
theorem Iv.base {B' : Nat} (h : Iv b B0 V s w) (hB : B' ≤ B0) : Iv b B' V s w := ⟨h.ob, own_base h.own hB, h.ne, Nat.le_trans hB h.bb⟩
theorem Iv.kept {M : Nat → Prop} (h : Iv b B0 V s w) (hk : Kept M w w') (hM : ∀ x, WM b V x → ¬ M x) : Iv b B0 V s w' :=
  ⟨h.ob.kept hk (hM b (.inl rfl)), own_kept h.own hk fun x hx => hM x (.inr hx), h.ne, h.bb⟩
theorem Iv.lt (h : Iv b B0 V s w) : ∀ x, WM b V x → B0 ≤ x ∧ x < w.heap.size := by
  rintro x (rfl | hx)
  · exact ⟨h.bb, h.ob.lt⟩
  · exact own_lt h.own x hx
theorem Iv.keptF (h : Iv b B0 V s w) (hk : Kept (fun _ => False) w w') : Iv b B0 V s w' := h.kept hk fun _ _ hh => hh
theorem Iv.below (h : Iv b B0 V s w) (hb : Below w.heap.size w w') : Iv b B0 V s w' := h.keptF (Kept.of_below hb)
/-- what a call that changes it leaves -/
def IvPost (b B0 : Nat) (V : Value) (s' : Is) (w w' : World) : Prop :=
  ∃ V', Iv b B0 V' s' w' ∧ Kept (WM b V) w w' ∧ ∀ x, WM b V' x → WM b V x ∨ w.heap.size ≤ x
theorem IvPost.same (h : Iv b B0 V s w) (hk : Kept (fun _ => False) w w') : IvPost b B0 V s w w' :=
  ⟨V, h.keptF hk, kept_any hk, fun _ hx => .inl hx⟩
/-- what the set stores anew -/
theorem iv_store {V' : Value} {n : Nat} {xs : List Value} {s' : Is} {w1 : World} (h : Iv b B0 V s w) (hk : Kept (WM b V) w w1) (hob : Ob w1 b #[.int .i64 s'.tot, V] TS) (ho : w1.ownsRow B0 TR 2 V' n xs)
    (hb : V'.ownBlock = V.ownBlock ∨ ∀ x, V'.ownBlock = some x → w.heap.size ≤ x) (hx : xs = s'.l.flatMap Rg.row) (hn : n = s'.l.length) : IvPost b B0 V s' w (w1.setCell ⟨b, 1, none⟩ V') := by
  have hne : V'.ownBlock ≠ some b := by
    rcases hb with hb | hb
    · rw [hb]; exact h.ne
    · intro hh; have := hb b hh; have := h.ob.lt; omega
  subst hx hn
  refine ⟨V', ⟨Ob.cast (hob.set 1 V') rfl, own_kept ho ((Kept.refl (Only b) w1).setO) (fun y hy hh => hne (by rw [hy, show y = b from hh])), hne, h.bb⟩, hk.set _ _ (fun _ => .inl rfl), fun x hx => ?_⟩
  rcases hx with rfl | hx
  · exact .inl (.inl rfl)
  · rcases hb with hb | hb
    · exact .inl (.inr (by rw [← hb]; exact hx))
    · exact .inr (hb x hx)
/-- what may be -/
structure Is.ok (s : Is) : Prop where
  t0 : 0 ≤ s.tot
  t1 : s.tot ≤ 1073741824
  asc : Asc s.tot 0 s.l
def Is.may (s : Is) (f t : Int) : Prop := 0 ≤ f ∧ f ≤ t ∧ t ≤ s.tot
instance (s : Is) (f t : Int) : Decidable (s.may f t) := by unfold Is.may; exact inferInstance
def Is.fr (s : Is) (f t : Int) : Int := t - f - cov s.l f t
theorem new_iv (tot : Int) (w : World) (h : 0 ≤ tot ∧ tot ≤ 1073741824) : Calls Try.prog 15 #[.int .i64 tot] w fun e w' => e = .returned (.tuple #[.pointer (some ⟨w.heap.size, 0, none⟩), .int .i64 0]) ∧ Iv w.heap.size w.heap.size (.slice none 0 0) ⟨tot, []⟩ w' ∧ Below w.heap.size w w' := by
  obtain ⟨h1, h2⟩ := h
  go_enter Try.func15, Try.ntmps15
  go_wp2_with fail
  refine done (.tuple #[.pointer (some ⟨w.heap.size, 0, none⟩), .int .i64 0]) rfl (by simp [results, Try.results15, go_sem]) ⟨rfl, ⟨Ob.new _ _ _, World.ownsRow_nil _ _ _ _, by simp [Value.ownBlock], Nat.le_refl _⟩, (Below.refl _ _).alloc (Nat.le_refl _) _⟩
theorem newno_iv (tot : Int) (w : World) (h : ¬ (0 ≤ tot ∧ tot ≤ 1073741824)) : Calls Try.prog 15 #[.int .i64 tot] w fun e w' => e = .returned (.tuple #[.pointer none, .int .i64 1]) ∧ w = w' := by
  rcases (by omega : tot < 0 ∨ (0 ≤ tot ∧ 1073741824 < tot)) with h1 | ⟨h1, h2⟩
  all_goals
    clear h
    go_enter Try.func15, Try.ntmps15
    go_wp2_with fail
    go_ret2
    exact ⟨rfl, rfl⟩
theorem may_iv (b B0 : Nat) (V : Value) (s : Is) (f t : Int) (w : World) (h : Iv b B0 V s w) : Calls Try.prog 25 #[.pointer (some ⟨b, 0, none⟩), .int .i64 f, .int .i64 t] w fun e w' => e = .returned (.bool (decide (s.may f t))) ∧ w = w' := by
  obtain ⟨lb, cb, fb⟩ := h.ob.blk
  have c0 := cb 0
  clear cb h
  rcases (by omega : f < 0 ∨ (0 ≤ f ∧ t < f) ∨ (0 ≤ f ∧ f ≤ t ∧ s.tot < t) ∨ (0 ≤ f ∧ f ≤ t ∧ t ≤ s.tot)) with h | ⟨h, h2⟩ | ⟨h, h2, h3⟩ | ⟨h, h2, h3⟩
  iterate 3
    · have e : decide (s.may f t) = false := decide_eq_false (by unfold Is.may; omega)
      rw [e]
      first | (have hd0 : decide (0 ≤ f) = false := decide_eq_false (by omega)) | skip
      first | (have hd1 : decide (f ≤ t) = false := decide_eq_false (by omega)) | skip
      first | (have hd2 : decide (t ≤ s.tot) = false := decide_eq_false (by omega)) | skip
      go_enter Try.func25, Try.ntmps25
      go_wp2_with fail
      go_ret
      exact ⟨rfl, rfl⟩
  · have e : decide (s.may f t) = true := decide_eq_true (by unfold Is.may; omega)
    rw [e]
    go_enter Try.func25, Try.ntmps25
    go_wp2_with fail
    go_ret
    exact ⟨rfl, rfl⟩
theorem maynil_iv (f t : Int) (w : World) : Calls Try.prog 25 #[.pointer none, .int .i64 f, .int .i64 t] w fun e w' => e = .returned (.bool false) ∧ w = w' := by
  go_enter Try.func25, Try.ntmps25
  go_wp2_with fail
  go_ret
  exact ⟨rfl, rfl⟩
set_option maxRecDepth 100000 in
theorem freshno_iv (b B0 : Nat) (V : Value) (s : Is) (f t : Int) (w : World) (h : Iv b B0 V s w) (hm : ¬ s.may f t) : Calls Try.prog 26 #[.pointer (some ⟨b, 0, none⟩), .int .i64 f, .int .i64 t] w fun e w' => e = .returned (.int .i64 0) ∧ w = w' := by
  go_enter Try.func26, Try.ntmps26
  go_wp2_with fail
  refine (may_iv b B0 V s f t w h).mono ?_
  rw [decide_eq_false hm]
  rintro e w1 ⟨rfl, rfl⟩
  go_wp2_with fail
  go_ret
  exact ⟨rfl, rfl⟩
set_option maxRecDepth 100000 in
set_option maxHeartbeats 2000000 in
theorem fresh_iv (b B0 : Nat) (V : Value) (s : Is) (f t : Int) (w : World) (h : Iv b B0 V s w) (ho : s.ok) (hm : s.may f t) : Calls Try.prog 26 #[.pointer (some ⟨b, 0, none⟩), .int .i64 f, .int .i64 t] w fun e w' => e = .returned (.int .i64 (s.fr f t)) ∧ Below w.heap.size w w' := by
  have HI := Lib.hid h
  have HO := Lib.hid ho
  obtain ⟨a, c, hv, _, _⟩ := (Rd.of_own h.own).form
  have HV := Lib.hid hv
  obtain ⟨lb, cb, fb⟩ := h.ob.blk
  have c1 : w.cell? ⟨b, 1, none⟩ = some (.slice a s.l.length c) := by rw [cb 1, hv]; rfl
  have hrd := Rd.of_own h.own
  rw [hv] at hrd
  have HR := Lib.hid hrd
  have t1 := ho.t1
  obtain ⟨m0, m1, m2⟩ := id hm
  clear cb hv hrd ho
  go_enter Try.func26, Try.ntmps26
  go_wp2_with fail
  refine (may_iv b B0 V s f t w h).mono ?_
  rw [decide_eq_true hm]
  clear h hm
  rintro e w1 ⟨rfl, rfl⟩
  have hsub : IntKind.i64.wrap (t - f) = t - f := by rw [IntKind.wrap_i64]; omega
  go_wp2_with fail
  go_loopw [7, 23] (fun n i wr => ∃ k : Nat, i = .int .i64 k ∧ k ≤ s.l.length ∧ n = .int .i64 (t - f - cov (s.l.take k) f t) ∧ Below w.heap.size w wr) (fun _ i _ => s.l.length - (intOf i).toNat)
  case atStart => exact ⟨0, rfl, Nat.zero_le _, by simp [cov], Below.refl _ _⟩
  case round =>
    obtain ⟨k, rfl, hk, rfl, hb⟩ := hrel
    have HB := Lib.hid hb
    by_cases hlt : k < s.l.length
    · obtain ⟨g, o, rfl, hg, cwa⟩ := Rd.row rowRg (by decide) (HR.out.below hb) k hlt
      have HS := Lib.hid (cov_take_step hlt f t)
      have h3 := asc_le HO.out.asc s.l[k] (List.getElem_mem hlt)
      have h4 := cov_le f t (HO.out.asc.take k)
      have h5 := cov_nonneg (s.l.take k) f t
      have h6 := cov_le f t (HO.out.asc.take (k + 1))
      have h7 := cov_nonneg (s.l.take (k + 1)) f t
      have e1 : cov (s.l.take (k + 1)) f t = cov (s.l.take k) f t + max (min s.l[k].t t - max s.l[k].f f) 0 := HS.out
      have c0 := cwa 0 (.int .i64 s.l[k].f) rfl
      have c2 := cwa 1 (.int .i64 s.l[k].t) rfl
      rw [Nat.add_zero] at c0
      have hsz := hb.size
      generalize s.l[k].f = rf at *
      generalize s.l[k].t = rt at *
      obtain ⟨C, HC⟩ : ∃ C, Hid (cov (s.l.take k) f t = C) := ⟨_, Lib.hid rfl⟩
      obtain ⟨C', HC'⟩ : ∃ C', Hid (cov (s.l.take (k + 1)) f t = C') := ⟨_, Lib.hid rfl⟩
      rw [HC.out] at h4 h5 e1 ⊢
      rw [HC'.out] at h6 h7 e1
      have w1 : IntKind.i64.wrap (min rt t - max rf f) = min rt t - max rf f := by rw [IntKind.wrap_i64]; omega
      have w2 : IntKind.i64.wrap (t - f - C - max (min rt t - max rf f) 0) = t - f - C - max (min rt t - max rf f) 0 := by rw [IntKind.wrap_i64]; omega
      have E1 := Lib.hid e1
      clear e1 h4 h6 hb cwa HS
      go_wp2_with fail
      go_roundw
      case rel => exact ⟨k + 1, by go_num, by omega, by rw [HC'.out, E1.out]; congr 1; omega, HB.out.alloc hsz _⟩
      case measure => simp [intOf]; omega
    · obtain rfl : k = s.l.length := by omega
      rw [List.take_length]
      go_wp2_with fail
      go_ret
      exact ⟨rfl, HB.out⟩
end Go.Proofs.Ytkogodoaejoooaa
