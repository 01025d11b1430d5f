/- Contracts of wire (chapter 10) and of the reference's: numbers as bytes, the check. -/
import Derived.Test.YtoihhidoafgoaaaWirePlain
import Derived.Test.YtoihhidoafgoaaaNum
import Derived.Test.YtoihhidoafgoaaaRun
import Derived.Shelf.Bits.Mul64
namespace Go.Proofs.Ytoihhidoafgoaaa
open Go.RowKit

theorem info_u8 : (Try.prog.info? 5).map (fun i => (i.zero, i.size, i.bytes)) = some (some (.int .u8 0), 1, 1) := by kernel_rfl
theorem take_getB (l : List UInt8) (k : Nat) (h : k < l.length) : getB (l.take (k + 1)) = getB (l.take k) * 256 + (l[k]).toNat := by
  unfold getB
  rw [List.take_succ_eq_append_getElem h, List.foldl_append]; rfl
theorem getB_lt (l : List UInt8) : getB l < 256 ^ l.length := by
  have key : ∀ (l : List UInt8) (a : Nat), l.foldl (fun n c => n * 256 + c.toNat) a < (a + 1) * 256 ^ l.length := by
    intro l
    induction l with
    | nil => intro a; simp
    | cons c l ih =>
      intro a
      rw [List.foldl_cons]
      refine Nat.lt_of_lt_of_le (ih _) ?_
      rw [List.length_cons, Nat.pow_succ, Nat.mul_comm (256 ^ l.length), ← Nat.mul_assoc]
      refine Nat.mul_le_mul_right _ ?_
      have := c.toNat_lt
      omega
  have := key l 0
  simpa [getB] using this
theorem or_byte (a b : Nat) (ha : a < 72057594037927936) (hb : b < 256) : bits .or .u64 (IntKind.u64.wrap ((a : Int) * 256)) (IntKind.u64.wrap (b : Int)) = ((a * 256 + b : Nat) : Int) := by
  have e : (a : Int) * 256 = ((a * 256 : Nat) : Int) := by omega
  rw [e, Mul64.wrapN _ (by omega), Mul64.wrapN _ (by omega)]
  rw [bits_or_u64_nat (a * 256) b (by omega) (by omega)]
  have h2 : a * 256 = a <<< 8 := by rw [Nat.shiftLeft_eq]
  rw [h2, ← Nat.shiftLeft_add_eq_or_of_lt (by simpa using hb)]
theorem get_step (l : List UInt8) (k : Nat) (h : k < l.length) (hl : l.length ≤ 8) : bits .or .u64 (IntKind.u64.wrap ((getB (l.take k) : Int) * 256)) (IntKind.u64.wrap ((l[k]).toNat : Int)) = (getB (l.take (k + 1)) : Int) := by
  rw [take_getB l k h]
  refine or_byte _ _ ?_ (l[k]).toNat_lt
  have h1 := getB_lt (l.take k)
  rw [List.length_take, Nat.min_eq_left (by omega)] at h1
  have h2 : (256 : Nat) ^ k ≤ 256 ^ 7 := Nat.pow_le_pow_right (by decide) (by omega)
  simp only [Nat.reducePow] at h2
  omega
def PutPost (l : List UInt8) (n k B : Nat) (w : World) (e : Ending) (w' : World) : Prop := ∃ v', e = .returned v' ∧ w'.ownsRow B 5 1 v' (l.length + k) (bcells (l ++ be n k)) ∧ Below B w w'
theorem be_byte (n m : Nat) : ((n : Int) / 2 ^ (8 * m) % 256) = ((UInt8.ofNat (n / 256 ^ m)).toNat : Int) := by
  have h2 : (2 : Int) ^ (8 * m) = ((256 ^ m : Nat) : Int) := by
    have h3 := (Int.natCast_pow 2 (8 * m)).symm
    rw [Nat.pow_mul] at h3
    exact h3
  rw [h2, UInt8.toNat_ofNat']
  exact (by omega : ∀ x y : Nat, (x : Int) / (y : Int) % 256 = ((x / y : Nat) : Int) % 256) n (256 ^ m)
end Go.Proofs.Ytoihhidoafgoaaa
