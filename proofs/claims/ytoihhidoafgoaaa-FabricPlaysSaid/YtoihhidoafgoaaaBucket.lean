/- Contracts of bucket (chapter 3) and of the reference's bucket. -/
import Derived.Test.YtoihhidoafgoaaaNum
import Derived.Test.YtoihhidoafgoaaaObj
namespace Go.Proofs.Ytoihhidoafgoaaa
open Go.RowKit

/-- a bucket: rate, depth, level, time -/
structure Bk where
  r : Int
  d : Int
  l : Int
  t : Int
def Bk.cI (s : Bk) : Array Value := #[.int .i64 s.r, .int .i64 s.d, .int .i64 s.l, .int .i64 s.t]
def Bk.cM (s : Bk) : Array Value := #[.int .i64 s.r, .int .i64 s.d, .int .i64 s.t, .int .i64 s.l]
structure Bk.ok (s : Bk) : Prop where
  r0 : 0 ≤ s.r
  r1 : s.r ≤ 17179869184
  d0 : 1 ≤ s.d
  d1 : s.d ≤ 1073741824
  l0 : 0 ≤ s.l
  l1 : s.l ≤ s.d * 65536
  t0 : 0 ≤ s.t
  t1 : s.t ≤ 1125899906842624
def tick (t now : Int) : Int := max t (min now 1125899906842624)
def Bk.lev (s : Bk) (now : Int) : Int := min (s.d * 65536) (addI s.l (mulI s.r (tick s.t now - s.t)))
def Bk.on (s : Bk) (now : Int) : Bk := ⟨s.r, s.d, s.lev now, tick s.t now⟩
theorem mulI_b (a b : Int) : 0 ≤ mulI a b ∧ mulI a b ≤ 1125899906842624 := by
  have := Int.mul_nonneg (hold_b a).1 (hold_b b).1
  unfold mulI; omega
theorem addI_b (a b : Int) : 0 ≤ addI a b ∧ addI a b ≤ 1125899906842624 := hold_b _
theorem clamp_tick (t now : Int) (h : t ≤ 1125899906842624) : clampI now t 1125899906842624 = tick t now := by
  unfold clampI tick
  split
  · omega
  · split <;> omega
theorem tick_b (t now : Int) (h0 : 0 ≤ t) (h : t ≤ 1125899906842624) : t ≤ tick t now ∧ tick t now ≤ 1125899906842624 := by unfold tick; omega
theorem tick_tick (t now : Int) : tick (tick t now) now = tick t now := by unfold tick; omega
theorem ofI_in (n : Int) (h0 : 0 ≤ n) (h : n ≤ 17179869184) : ofI n = n * 65536 := by
  unfold ofI clampI; rw [if_neg (by omega), if_neg (by omega)]
theorem Bk.on_ok {s : Bk} (h : s.ok) (now : Int) : (s.on now).ok := by
  obtain ⟨h1, h2, h3, h4, h5, h6, h7, h8⟩ := h
  have := tick_b s.t now h7 h8
  have := addI_b s.l (mulI s.r (tick s.t now - s.t))
  exact ⟨h1, h2, h3, h4, by show 0 ≤ s.lev now; unfold Bk.lev; omega, by show s.lev now ≤ s.d * 65536; unfold Bk.lev; omega, by show 0 ≤ tick s.t now; omega, by show tick s.t now ≤ _; omega⟩
theorem Bk.on_on {s : Bk} (h : s.ok) (now : Int) : (s.on now).on now = s.on now := by
  have h2 := Bk.on_ok h now
  have e1 : tick (s.on now).t now = (s.on now).t := tick_tick s.t now
  have e2 : (s.on now).lev now = (s.on now).l := by
    unfold Bk.lev
    rw [e1, Int.sub_self]
    have e3 : mulI (s.on now).r 0 = 0 := by unfold mulI; rw [hold_id 0 (by decide) (by decide), Int.mul_zero]; rfl
    have := h2.l0; have := h2.l1; have := h2.d1
    rw [e3]; unfold addI
    rw [hold_id (s.on now).l (by omega) (by omega), hold_id 0 (by decide) (by decide), Int.add_zero, hold_id (s.on now).l (by omega) (by omega)]
    omega
  show (⟨(s.on now).r, (s.on now).d, (s.on now).lev now, tick (s.on now).t now⟩ : Bk) = s.on now
  rw [e1, e2]

def Bk.can (s : Bk) (now n : Int) : Bool := decide (0 ≤ n) && decide (n ≤ (s.on now).l / 65536)
def Bk.take (s : Bk) (now n : Int) : Bk := if s.can now n = true then ⟨(s.on now).r, (s.on now).d, (s.on now).l - n * 65536, (s.on now).t⟩ else s.on now
theorem Bk.take_ok {s : Bk} (h : s.ok) (now n : Int) : (s.take now n).ok := by
  have hk := Bk.on_ok h now
  unfold Bk.take
  split
  · rename_i hc
    simp only [Bk.can, Bool.and_eq_true, decide_eq_true_eq] at hc
    obtain ⟨h1, h2, h3, h4, h5, h6, h7, h8⟩ := hk
    exact ⟨h1, h2, h3, h4, by show 0 ≤ (s.on now).l - n * 65536; omega, by show (s.on now).l - n * 65536 ≤ (s.on now).d * 65536; omega, h7, h8⟩
  · exact hk

def Bk.whenI (s : Bk) (now n : Int) : Int := if n < 0 ∨ s.d < n then 1125899906842624 else if n * 65536 - (s.on now).l ≤ 0 then (s.on now).t else if s.r = 0 then 1125899906842624 else addI (s.on now).t ((n * 65536 - (s.on now).l + s.r - 1) / s.r)
theorem ofI_b (n : Int) : 0 ≤ ofI n ∧ ofI n ≤ 1125899906842624 := by
  have := clamp34 n
  unfold ofI; omega
theorem Bk.on_r (s : Bk) (now : Int) : (s.on now).r = s.r := rfl
theorem Bk.on_d (s : Bk) (now : Int) : (s.on now).d = s.d := rfl
theorem Bk.rate_ok {s : Bk} (h : s.ok) (x : Int) : (⟨clampI x 0 17179869184, s.d, s.l, s.t⟩ : Bk).ok := by
  obtain ⟨h1, h2, h3, h4, h5, h6, h7, h8⟩ := h
  have := clamp34 x
  exact ⟨this.1, this.2, h3, h4, h5, h6, h7, h8⟩
def Bk.rate (s : Bk) (now x : Int) : Bk := ⟨clampI x 0 17179869184, (s.on now).d, (s.on now).l, (s.on now).t⟩
def newOk (r d : Int) : Prop := 0 ≤ r ∧ r ≤ 17179869184 ∧ 1 ≤ d ∧ d ≤ 1073741824
def full (r d : Int) : Bk := ⟨r, d, d * 65536, 0⟩
theorem full_ok {r d : Int} (h : newOk r d) : (full r d).ok := by
  obtain ⟨h1, h2, h3, h4⟩ := h
  exact ⟨h1, h2, h3, h4, by show 0 ≤ d * 65536; omega, by show d * 65536 ≤ d * 65536; omega, by show (0 : Int) ≤ 0; omega, by show (0 : Int) ≤ 1125899906842624; omega⟩
end Go.Proofs.Ytoihhidoafgoaaa
