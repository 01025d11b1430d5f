/- Frames as bytes: the plain law. No program in sight. -/
import Derived.Test.YtajhndakkaniaaaGreatDoorLib
namespace Go.Proofs.YtajhndakkaniaaaGreatDoor

structure Fr where
  kind : Int
  src : Int
  dst : Int
  prio : Int
  msg : Int
  off : Int
  len : Int
  total : Int
  num : Int
  data : List UInt8

/-- a number in k bytes, the greatest first -/
def be (n : Nat) : Nat → List UInt8
  | 0 => []
  | k + 1 => UInt8.ofNat (n / 256 ^ k) :: be n k
theorem be_len (n k : Nat) : (be n k).length = k := by induction k with | zero => rfl | succ k ih => simp [be, ih]
/-- the number of bytes -/
def getB (l : List UInt8) : Nat := l.foldl (fun n c => n * 256 + c.toNat) 0
theorem get_from (n : Nat) : ∀ (k a : Nat), (be n k).foldl (fun n c => n * 256 + c.toNat) a = a * 256 ^ k + n % 256 ^ k := by
  intro k
  induction k with
  | zero => intro a; simp [be, Nat.mod_one]
  | succ k ih =>
    intro a
    have h1 : (UInt8.ofNat (n / 256 ^ k)).toNat = n / 256 ^ k % 256 := by rw [UInt8.toNat_ofNat']
    rw [be, List.foldl_cons, ih, h1, Nat.pow_succ, Nat.mod_mul, Nat.add_mul, Nat.mul_assoc, Nat.mul_comm 256 (256 ^ k), Nat.mul_comm (n / 256 ^ k % 256)]
    omega
theorem get_be (n k : Nat) (h : n < 256 ^ k) : getB (be n k) = n := by
  unfold getB; rw [get_from, Nat.zero_mul, Nat.zero_add, Nat.mod_eq_of_lt h]

def by8 (n : Int) : UInt8 := UInt8.ofNat n.toNat
theorem by8_nat (n : Int) (h : 0 ≤ n ∧ n ≤ 255) : ((by8 n).toNat : Int) = n := by
  unfold by8; rw [UInt8.toNat_ofNat', Nat.mod_eq_of_lt (by rw [show (2 : Nat) ^ 8 = 256 by rfl]; omega)]; omega
/-- the head, its sum's byte 0 -/
def hb (f : Fr) : List UInt8 :=
  [by8 f.kind, by8 (f.src * 16 + f.dst), by8 f.prio, 0] ++ be f.msg.toNat 8 ++ be f.off.toNat 4 ++ be f.total.toNat 4 ++ be f.len.toNat 2 ++ be f.num.toNat 4
def sumB (l : List UInt8) : UInt8 := l.foldl (· + ·) 0
def hd (f : Fr) : List UInt8 := (hb f).set 3 (sumB (hb f))
def encF (f : Fr) : List UInt8 := hd f ++ f.data
theorem hb_len (f : Fr) : (hb f).length = 26 := by simp [hb, be_len]
theorem enc_len (f : Fr) : (encF f).length = 26 + f.data.length := by simp [encF, hd, hb_len]

def rdF (l : List UInt8) : Fr where
  kind := ((l.getD 0 0).toNat : Int)
  src := ((l.getD 1 0).toNat / 16 : Nat)
  dst := ((l.getD 1 0).toNat % 16 : Nat)
  prio := ((l.getD 2 0).toNat : Int)
  msg := (getB ((l.drop 4).take 8) : Int)
  off := (getB ((l.drop 12).take 4) : Int)
  total := (getB ((l.drop 16).take 4) : Int)
  len := (getB ((l.drop 20).take 2) : Int)
  num := (getB ((l.drop 22).take 4) : Int)
  data := l.drop 26

structure okF (f : Fr) : Prop where
  kind : 1 ≤ f.kind ∧ f.kind ≤ 12
  src : 0 ≤ f.src ∧ f.src ≤ 7
  dst : 0 ≤ f.dst ∧ f.dst ≤ 7
  prio : 0 ≤ f.prio ∧ f.prio ≤ 7
  msg : 0 ≤ f.msg ∧ f.msg ≤ 1152921504606846976
  off : 0 ≤ f.off ∧ f.off ≤ 1073741824
  total : 0 ≤ f.total ∧ f.total ≤ 1073741824
  len : 0 ≤ f.len ∧ f.len ≤ 1500
  num : 0 ≤ f.num ∧ f.num ≤ 1073741824
  fits : f.kind = 1 ∨ f.kind = 7 → f.off + f.len ≤ f.total
  data : (f.data.length : Int) = if f.kind = 1 then f.len else 0

theorem rd_enc {f : Fr} (h : okF f) : rdF (encF f) = f := by
  have h1 := by8_nat f.kind ⟨by have := h.kind; omega, by have := h.kind; omega⟩
  have h2 := by8_nat (f.src * 16 + f.dst) ⟨by have := h.src; have := h.dst; omega, by have := h.src; have := h.dst; omega⟩
  have h3 := by8_nat f.prio ⟨by have := h.prio; omega, by have := h.prio; omega⟩
  have h4 := get_be f.msg.toNat 8 (by have := h.msg; simp only [Nat.reducePow]; omega)
  have h5 := get_be f.off.toNat 4 (by have := h.off; simp only [Nat.reducePow]; omega)
  have h6 := get_be f.total.toNat 4 (by have := h.total; simp only [Nat.reducePow]; omega)
  have h7 := get_be f.len.toNat 2 (by have := h.len; simp only [Nat.reducePow]; omega)
  have h8 := get_be f.num.toNat 4 (by have := h.num; simp only [Nat.reducePow]; omega)
  have hs := h.src; have hd' := h.dst
  have e : rdF (encF f) = ⟨((by8 f.kind).toNat : Int), ((by8 (f.src * 16 + f.dst)).toNat / 16 : Nat), ((by8 (f.src * 16 + f.dst)).toNat % 16 : Nat), ((by8 f.prio).toNat : Int), (getB (be f.msg.toNat 8) : Int), (getB (be f.off.toNat 4) : Int), (getB (be f.len.toNat 2) : Int), (getB (be f.total.toNat 4) : Int), (getB (be f.num.toNat 4) : Int), f.data⟩ := rfl
  rw [e, h1, h3, h4, h5, h6, h7, h8]
  obtain ⟨kind, src, dst, prio, msg, off, len, total, num, data⟩ := f
  have := h.msg; have := h.off; have := h.len; have := h.total; have := h.num
  simp only at *
  have a1 : (((by8 (src * 16 + dst)).toNat / 16 : Nat) : Int) = src := by omega
  have a2 : (((by8 (src * 16 + dst)).toNat % 16 : Nat) : Int) = dst := by omega
  rw [a1, a2]
  simp only [Fr.mk.injEq, true_and, and_true]
  omega

def goodB (l : List UInt8) : Prop := 26 ≤ l.length ∧ okF (rdF l) ∧ encF (rdF l) = l
theorem good_enc {f : Fr} (h : okF f) : goodB (encF f) := by
  refine ⟨by rw [enc_len]; omega, ?_, ?_⟩ <;> rw [rd_enc h]
  exact h
theorem good_len {l : List UInt8} (h : goodB l) : (l.length : Int) = 26 + if (rdF l).kind = 1 then (rdF l).len else 0 := by
  have h1 := congrArg List.length h.2.2
  rw [enc_len] at h1
  have h2 := h.2.1.data
  omega
theorem good_max {l : List UInt8} (h : goodB l) : l.length ≤ 1526 := by
  have h1 := good_len h
  have h2 := h.2.1.len
  split at h1 <;> omega
theorem good_head {l m : List UInt8} (hl : goodB l) (hm : goodB m) (h : l.take 26 = m.take 26) : l.length = m.length := by
  have h1 := good_len hl
  have h2 := good_len hm
  have e0 : ∀ l : List UInt8, (rdF l).kind = (rdF (l.take 26)).kind := fun l => by simp [rdF, List.getD_eq_getElem?_getD]
  have e1 : ∀ l : List UInt8, (rdF l).len = (rdF (l.take 26)).len := fun l => by simp [rdF, List.drop_take, List.take_take]
  rw [e0 l, e1 l, h, ← e0 m, ← e1 m] at h1
  omega

theorem sum_from (l : List UInt8) : ∀ a : UInt8, l.foldl (· + ·) a = a + sumB l := by
  induction l with
  | nil => intro a; simp [sumB]
  | cons x l ih =>
    intro a
    unfold sumB
    rw [List.foldl_cons, List.foldl_cons, ih, ih (0 + x), UInt8.zero_add, UInt8.add_assoc]
theorem sum_cons (x : UInt8) (l : List UInt8) : sumB (x :: l) = x + sumB l := by
  unfold sumB; rw [List.foldl_cons, UInt8.zero_add, sum_from]; rfl
theorem sum_set (y : UInt8) : ∀ (l : List UInt8) (p : Nat) (h : p < l.length), sumB (l.set p y) + l[p] = sumB l + y := by
  intro l
  induction l with
  | nil => intro p h; simp at h
  | cons x l ih =>
    intro p h
    cases p with
    | zero => simp only [List.set_cons_zero, List.getElem_cons_zero, sum_cons]; rw [UInt8.add_comm (y + sumB l) x, UInt8.add_comm y (sumB l), ← UInt8.add_assoc]
    | succ p =>
      simp only [List.set_cons_succ, List.getElem_cons_succ, sum_cons]
      rw [UInt8.add_assoc, ih p (by simpa using h), UInt8.add_assoc]
theorem good_sum {l : List UInt8} (h : goodB l) : l.getD 3 0 = sumB ((l.take 26).set 3 0) := by
  have e : ∀ f : Fr, (encF f).getD 3 0 = sumB (hb f) := fun f => by
    have := hb_len f
    unfold encF hd
    generalize sumB (hb f) = s
    rw [List.getD_eq_getElem?_getD, List.getElem?_append_left (by rw [List.length_set]; omega), List.getElem?_set_self (by omega)]
    rfl
  have e2 : ∀ f : Fr, ((encF f).take 26).set 3 0 = hb f := fun f => by
    have := hb_len f
    unfold encF hd
    generalize sumB (hb f) = s
    rw [List.take_append_of_le_length (by rw [List.length_set]; omega), List.take_of_length_le (by rw [List.length_set]; omega), List.set_set]
    rfl
  have h1 := e (rdF l)
  have h2 := e2 (rdF l)
  rw [h.2.2] at h1 h2
  rw [h1, h2]
/-- one byte of the head changed -/
theorem good_change {l : List UInt8} (h : goodB l) (p : Nat) (hp : p < 26) (y : UInt8) (hy : y ≠ l.getD p 0) : ¬ goodB (l.set p y) := by
  intro hm
  have h1 := good_sum h
  have h2 := good_sum hm
  have hl := h.1
  by_cases h3 : p = 3
  · subst h3
    have e1 : (l.set 3 y).getD 3 0 = y := by simp [List.getD_eq_getElem?_getD, show 3 < l.length by omega]
    have e2 : ((l.set 3 y).take 26).set 3 0 = (l.take 26).set 3 0 := by rw [List.take_set, List.set_set]
    rw [e1, e2, ← h1] at h2
    exact hy h2
  · have e1 : (l.set p y).getD 3 0 = l.getD 3 0 := by simp [List.getD_eq_getElem?_getD, h3]
    have e2 : ((l.set p y).take 26).set 3 0 = ((l.take 26).set 3 0).set p y := by rw [List.take_set, List.set_comm _ _ (by omega)]
    have hpl : p < ((l.take 26).set 3 0).length := by simp; omega
    have e3 : ((l.take 26).set 3 0)[p] = l.getD p 0 := by
      rw [List.getElem_set_ne (by omega)]
      simp [List.getD_eq_getElem?_getD, List.getElem?_eq_getElem (show p < l.length by omega)]
    have h4 := sum_set y ((l.take 26).set 3 0) p hpl
    rw [e1, e2] at h2
    rw [← h2, ← h1, e3] at h4
    exact hy ((UInt8.add_right_inj _).1 h4).symm
theorem xor_ne (a x : UInt8) (h : x ≠ 0) : a ^^^ x ≠ a := by
  intro he
  apply h
  have : a ^^^ (a ^^^ x) = a ^^^ a := by rw [he]
  rw [← UInt8.xor_assoc, UInt8.xor_self, UInt8.zero_xor] at this
  exact this

def trimF (f : Fr) : Fr := { f with kind := 7, prio := 0, data := [] }
theorem ok_trim {f : Fr} (h : okF f) (hk : f.kind = 1) : okF (trimF f) :=
  ⟨⟨by show (1 : Int) ≤ 7; decide, by show (7 : Int) ≤ 12; decide⟩, h.src, h.dst, ⟨by show (0 : Int) ≤ 0; decide, by show (0 : Int) ≤ 7; decide⟩, h.msg, h.off, h.total, h.len, h.num, fun _ => h.fits (.inl hk), rfl⟩
end Go.Proofs.YtajhndakkaniaaaGreatDoor
