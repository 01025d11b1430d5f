/- Who waits (chapter 18): the document's answer; how it lies; find, Of, Len. -/
import Derived.Test.YtohjnplhmbfjlaaPuG
namespace Go.Proofs.Ytohjnplhmbfjlaa
open Go.RowKit

abbrev TRf : TypeId := 63
abbrev TRp : TypeId := 40
structure Rf where
  pe : Int
  id : Int
  wt : Int
  ct : Int
def Rf.row (x : Rf) : List Value := [.int .i64 x.pe, .int .u64 x.id, .int .i64 x.wt, .int .i64 x.ct]
theorem rowRf (x : Rf) : x.row.length = 4 := rfl
theorem one_rf (l : List Rf) : ∀ u ∈ l.flatMap Rf.row, u.oneCell' = true := by
  intro u hu
  rw [List.mem_flatMap] at hu
  obtain ⟨x, hx, hu⟩ := hu
  simp only [Rf.row, List.mem_cons, List.not_mem_nil, or_false] at hu
  rcases hu with rfl | rfl | rfl | rfl <;> rfl
theorem info_rf : (Try.prog.info? TRf).map (fun i => (i.zero, i.size, i.bytes)) = some (some (.agg #[.int .i64 0, .int .u64 0, .int .i64 0, .int .i64 0]), 4, 32) := by kernel_rfl
structure Rs where
  most : Int
  l : List Rf
  peer : Int
  beg : Bool
  la : Nat → Int
  se : Nat → Bool
def rcells (s : Rs) (V : Value) : Array Value := #[.int .i64 s.most, V, .int .i64 s.peer, .bool s.beg, .int .u64 (s.la 0), .int .u64 (s.la 1), .int .u64 (s.la 2), .int .u64 (s.la 3), .int .u64 (s.la 4), .int .u64 (s.la 5), .int .u64 (s.la 6), .int .u64 (s.la 7), .bool (s.se 0), .bool (s.se 1), .bool (s.se 2), .bool (s.se 3), .bool (s.se 4), .bool (s.se 5), .bool (s.se 6), .bool (s.se 7)]
theorem r_getL (s : Rs) (V : Value) {p : Nat} (h : p < 8) : (rcells s V)[4 + p]? = some (.int .u64 (s.la p)) := by
  rcases eight h with rfl | rfl | rfl | rfl | rfl | rfl | rfl | rfl <;> rfl
theorem r_getS (s : Rs) (V : Value) {p : Nat} (h : p < 8) : (rcells s V)[12 + p]? = some (.bool (s.se p)) := by
  rcases eight h with rfl | rfl | rfl | rfl | rfl | rfl | rfl | rfl <;> rfl
theorem r_setL (s : Rs) (V : Value) {p : Nat} (h : p < 8) (x : Int) : (rcells s V).setIfInBounds (4 + p) (.int .u64 x) = rcells { s with la := upd s.la p x } V := by
  rcases eight h with rfl | rfl | rfl | rfl | rfl | rfl | rfl | rfl <;> rfl
theorem r_setS (s : Rs) (V : Value) {p : Nat} (h : p < 8) (x : Bool) : (rcells s V).setIfInBounds (12 + p) (.bool x) = rcells { s with se := upd s.se p x } V := by
  rcases eight h with rfl | rfl | rfl | rfl | rfl | rfl | rfl | rfl <;> rfl
structure Rp (b B0 : Nat) (V : Value) (s : Rs) (w : World) : Prop where
  ob : Ob w b (rcells s V) TRp
  own : w.ownsRow B0 TRf 4 V s.l.length (s.l.flatMap Rf.row)
  ne : V.ownBlock ≠ some b
  bb : B0 ≤ b
def RM (b : Nat) (V : Value) : Nat → Prop := fun x => x = b ∨ V.ownBlock = some x
section
variable {b B0 : Nat} {V : Value} {s : Rs} {w w' : World}
theorem Rp.kept {M : Nat → Prop} (h : Rp b B0 V s w) (hk : Kept M w w') (hM : ∀ x, RM b V x → ¬ M x) : Rp b B0 V s w' :=
  ⟨h.ob.kept hk (hM b (.inl rfl)), own_kept h.own hk fun x hx => hM x (.inr hx), h.ne, h.bb⟩
theorem Rp.keptF (h : Rp b B0 V s w) (hk : Kept (fun _ => False) w w') : Rp b B0 V s w' := h.kept hk fun _ _ hh => hh
theorem Rp.below (h : Rp b B0 V s w) (hb : Below w.heap.size w w') : Rp b B0 V s w' := h.keptF (Kept.of_below hb)
theorem Rp.lt (h : Rp b B0 V s w) : ∀ x, RM b V x → B0 ≤ x ∧ x < w.heap.size := by
  rintro x (rfl | hx)
  · exact ⟨h.bb, h.ob.lt⟩
  · exact own_lt h.own x hx
def RpPost (b B0 : Nat) (V : Value) (s' : Rs) (w w' : World) : Prop := ∃ V', Rp b B0 V' s' w' ∧ Kept (RM b V) w w' ∧ ∀ x, RM b V' x → RM b V x ∨ w.heap.size ≤ x
theorem RpPost.below {s' : Rs} (h : RpPost b B0 V s' w w') (hw : Rp b B0 V s w) : Below B0 w w' := by
  obtain ⟨V', h1, h2, _⟩ := h
  exact h2.belowAt (by have := hw.bb; have := hw.ob.lt; omega) (fun x hx => (hw.lt x hx).1)
end
def Rf.is (p id : Int) (x : Rf) : Bool := x.pe == p && x.id == id
set_option maxRecDepth 100000 in
set_option maxHeartbeats 2000000 in
theorem rfind (b B0 : Nat) (V : Value) (s : Rs) (p id : Int) (w : World) (h : Rp b B0 V s w) (hl : s.l.length ≤ 1000000) :
    Calls Try.prog 23 #[.pointer (some ⟨b, 0, none⟩), .int .i64 p, .int .u64 id] w fun e w' => e = .returned (.int .i64 (optI (s.l.findIdx? (Rf.is p id)))) ∧ w = w' := by
  obtain ⟨lb, cb, fb⟩ := h.ob.blk
  have c1 : w.cell? ⟨b, 1, none⟩ = some V := cb 1
  have HR := Lib.hid (Rd.of_own h.own)
  obtain ⟨a, c, hv, _, _⟩ := HR.out.form
  rw [hv] at c1 HR
  clear cb h hv
  go_enter Try.func23, Try.ntmps23
  go_wp2_with fail
  go_loopw [7] (fun i wr => ∃ j : Nat, i = .int .i64 j ∧ j ≤ s.l.length ∧ Hid (∀ q, (hq : q < s.l.length) → q < j → (s.l[q]).is p id = false) ∧ w = wr) (fun i _ => s.l.length - (intOf i).toNat)
  case atStart => exact ⟨0, rfl, Nat.zero_le _, Lib.hid (fun q _ h => by omega), rfl⟩
  case round =>
    obtain ⟨j, rfl, hj, HA, rfl⟩ := hrel
    by_cases hlt : j < s.l.length
    · obtain ⟨g, o, rfl, hg, cw⟩ := Rd.row rowRf (by decide) HR.out j hlt
      obtain ⟨x, HX⟩ : ∃ x, Hid (s.l[j] = x) := ⟨_, Lib.hid rfl⟩
      rw [HX.out] at cw
      have cf0 := cw 0 (.int .i64 x.pe) rfl
      have cf1 := cw 1 (.int .u64 x.id) rfl
      rw [Nat.add_zero] at cf0
      clear cw
      by_cases h1 : x.pe = p
      · have hb1 : (x.pe == p) = true := beq_iff_eq.2 h1
        by_cases h2 : x.id = id
        · have hb2 : (x.id == id) = true := beq_iff_eq.2 h2
          have HB := Lib.hid (And.intro hb1 hb2)
          clear h1 h2
          go_wp2_with fail
          go_ret
          refine ⟨?_, rfl⟩
          have e : s.l.findIdx? (Rf.is p id) = some j := List.findIdx?_eq_some_iff_getElem.2 ⟨hlt, by rw [HX.out]; unfold Rf.is; rw [HB.out.1, HB.out.2]; rfl, fun q hq => by rw [HA.out q (by omega) hq]; decide⟩
          rw [e]; rfl
        · have hb2 : (x.id == id) = false := beq_eq_false_iff_ne.2 h2
          have HB := Lib.hid hb2
          clear h1 h2
          go_wp2_with fail
          go_roundw
          case rel => exact ⟨j + 1, by go_num, by omega, Lib.hid (fun q hq hqj => by
            rcases Nat.lt_or_ge q j with h | h
            · exact HA.out q hq h
            · obtain rfl : q = j := by omega
              rw [HX.out]; unfold Rf.is; rw [HB.out, Bool.and_false]), trivial⟩
          case measure => simp [intOf]; omega
      · have hb1 : (x.pe == p) = false := beq_eq_false_iff_ne.2 h1
        have HB := Lib.hid hb1
        clear h1
        go_wp2_with fail
        go_roundw
        case rel => exact ⟨j + 1, by go_num, by omega, Lib.hid (fun q hq hqj => by
          rcases Nat.lt_or_ge q j with h | h
          · exact HA.out q hq h
          · obtain rfl : q = j := by omega
            rw [HX.out]; unfold Rf.is; rw [HB.out, Bool.false_and]), trivial⟩
        case measure => simp [intOf]; omega
    · obtain rfl : s.l.length = j := by omega
      go_wp2_with fail
      go_ret
      have e : s.l.findIdx? (Rf.is p id) = none := List.findIdx?_eq_none_iff.2 fun x hx => by
        obtain ⟨q, hq, rfl⟩ := List.getElem_of_mem hx
        exact HA.out q hq hq
      exact ⟨by rw [e]; rfl, rfl⟩
end Go.Proofs.Ytohjnplhmbfjlaa
