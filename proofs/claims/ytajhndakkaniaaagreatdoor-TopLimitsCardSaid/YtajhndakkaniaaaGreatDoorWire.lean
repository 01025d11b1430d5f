/- Contracts of wire (chapter 10) and of the reference's: numbers as bytes, the check. -/
import Derived.Test.YtajhndakkaniaaaGreatDoorWirePlain
import Derived.Test.YtajhndakkaniaaaGreatDoorNum
import Derived.Test.YtajhndakkaniaaaGreatDoorRun
import Derived.Shelf.Bits.Mul64
namespace Go.Proofs.YtajhndakkaniaaaGreatDoor
open Go.RowKit

theorem info_u8 : (Tryz.prog.info? 5).map (fun i => (i.zero, i.size, i.bytes)) = some (some (.int .u8 0), 1, 1) := by kernel_rfl
theorem take_getB (l : List UInt8) (k : Nat) (h : k < l.length) : getB (l.take (k + 1)) = getB (l.take k) * 256 + (l[k]).toNat := by
  unfold getB
  rw [List.take_succ_eq_append_getElem h, List.foldl_append]; rfl
theorem getB_lt (l : List UInt8) : getB l < 256 ^ l.length := by
  have key : ∀ (l : List UInt8) (a : Nat), l.foldl (fun n c => n * 256 + c.toNat) a < (a + 1) * 256 ^ l.length := by
    intro l
    induction l with
    | nil => intro a; simp
    | cons c l ih =>
      intro a
      rw [List.foldl_cons]
      refine Nat.lt_of_lt_of_le (ih _) ?_
      rw [List.length_cons, Nat.pow_succ, Nat.mul_comm (256 ^ l.length), ← Nat.mul_assoc]
      refine Nat.mul_le_mul_right _ ?_
      have := c.toNat_lt
      omega
  have := key l 0
  simpa [getB] using this
theorem or_byte (a b : Nat) (ha : a < 72057594037927936) (hb : b < 256) : bits .or .u64 (IntKind.u64.wrap ((a : Int) * 256)) (IntKind.u64.wrap (b : Int)) = ((a * 256 + b : Nat) : Int) := by
  have e : (a : Int) * 256 = ((a * 256 : Nat) : Int) := by omega
  rw [e, Mul64.wrapN _ (by omega), Mul64.wrapN _ (by omega)]
  rw [bits_or_u64_nat (a * 256) b (by omega) (by omega)]
  have h2 : a * 256 = a <<< 8 := by rw [Nat.shiftLeft_eq]
  rw [h2, ← Nat.shiftLeft_add_eq_or_of_lt (by simpa using hb)]
theorem get_step (l : List UInt8) (k : Nat) (h : k < l.length) (hl : l.length ≤ 8) : bits .or .u64 (IntKind.u64.wrap ((getB (l.take k) : Int) * 256)) (IntKind.u64.wrap ((l[k]).toNat : Int)) = (getB (l.take (k + 1)) : Int) := by
  rw [take_getB l k h]
  refine or_byte _ _ ?_ (l[k]).toNat_lt
  have h1 := getB_lt (l.take k)
  rw [List.length_take, Nat.min_eq_left (by omega)] at h1
  have h2 : (256 : Nat) ^ k ≤ 256 ^ 7 := Nat.pow_le_pow_right (by decide) (by omega)
  simp only [Nat.reducePow] at h2
  omega
theorem get_any (l : List UInt8) (v : Value) (w : World) (h : Rd w 1 v l.length (bcells l)) (hl : l.length ≤ 8) : Calls Tryz.prog 39 #[v] w fun e w' => e = .returned (.int .u64 (getB l)) ∧ w = w' := by
  obtain ⟨v, cp, rfl, h1, h2⟩ := h.form
  have HR := Lib.hid h
  clear h
  go_enter Tryz.func39, Tryz.ntmps39
  go_wp2_with fail
  go_loopw [2, 7] (fun n i wr => ∃ (k : Nat), n = .int .u64 (getB (l.take k)) ∧ i = .int .i64 k ∧ k ≤ l.length ∧ w = wr) (fun n i _ => l.length - (intOf i).toNat)
  case atStart => exact ⟨0, rfl, rfl, by omega, rfl⟩
  case round =>
    obtain ⟨k, rfl, rfl, hk, rfl⟩ := hrel
    by_cases hlt : k < l.length
    · obtain ⟨b, o, cap, he, _, _, hb, hc⟩ := HR.out.some (by omega) (by decide)
      cases he
      have c0 := hc k (.int .u8 (l[k]).toNat) (by simp [bcells, hlt])
      clear hc
      have HS := Lib.hid (get_step l k hlt hl)
      go_wp2_with fail
      go_roundw
      case rel => exact ⟨k + 1, by rw [HS.out], by go_num, by omega, trivial⟩
      case measure => simp [intOf]; omega
    · obtain rfl : k = l.length := by omega
      go_wp2_with fail
      go_ret
      refine ⟨?_, rfl⟩
      show Ending.returned (.int .u64 (getB (l.take l.length))) = _
      rw [List.take_length]
theorem get_ref (l : List UInt8) (v : Value) (w : World) (h : Rd w 1 v l.length (bcells l)) (hl : l.length ≤ 8) : Calls Tryz.prog 37 #[v] w fun e w' => e = .returned (.int .u64 (getB l)) ∧ w = w' := by
  obtain ⟨v, cp, rfl, h1, h2⟩ := h.form
  have HR := Lib.hid h
  clear h
  go_enter Tryz.func37, Tryz.ntmps37
  go_wp2_with fail
  go_loopw [3, 4] (fun n i wr => ∃ (k : Nat), n = .int .u64 (getB (l.take k)) ∧ i = .int .i64 k ∧ k ≤ l.length ∧ w = wr) (fun n i _ => l.length - (intOf i).toNat)
  case atStart => exact ⟨0, rfl, rfl, by omega, rfl⟩
  case round =>
    obtain ⟨k, rfl, rfl, hk, rfl⟩ := hrel
    by_cases hlt : k < l.length
    · obtain ⟨b, o, cap, he, _, _, hb, hc⟩ := HR.out.some (by omega) (by decide)
      cases he
      have c0 := hc k (.int .u8 (l[k]).toNat) (by simp [bcells, hlt])
      clear hc
      have HS := Lib.hid (get_step l k hlt hl)
      go_wp2_with fail
      go_roundw
      case rel => exact ⟨k + 1, by rw [HS.out], by go_num, by omega, trivial⟩
      case measure => simp [intOf]; omega
    · obtain rfl : k = l.length := by omega
      go_wp2_with fail
      go_ret
      refine ⟨?_, rfl⟩
      show Ending.returned (.int .u64 (getB (l.take l.length))) = _
      rw [List.take_length]
def PutPost (l : List UInt8) (n k B : Nat) (w : World) (e : Ending) (w' : World) : Prop := ∃ v', e = .returned v' ∧ w'.ownsRow B 5 1 v' (l.length + k) (bcells (l ++ be n k)) ∧ Below B w w'
theorem be_byte (n m : Nat) : ((n : Int) / 2 ^ (8 * m) % 256) = ((UInt8.ofNat (n / 256 ^ m)).toNat : Int) := by
  have h2 : (2 : Int) ^ (8 * m) = ((256 ^ m : Nat) : Int) := by
    have h3 := (Int.natCast_pow 2 (8 * m)).symm
    rw [Nat.pow_mul] at h3
    exact h3
  rw [h2, UInt8.toNat_ofNat']
  exact (by omega : ∀ x y : Nat, (x : Int) / (y : Int) % 256 = ((x / y : Nat) : Int) % 256) n (256 ^ m)
theorem put_any (l : List UInt8) (v : Value) (n k B : Nat) (w : World) (h : w.ownsRow B 5 1 v l.length (bcells l)) (hl : l.length ≤ 100) (hk : k ≤ 8) (hB : B ≤ w.heap.size) : Calls Tryz.prog 72 #[v, .int .u64 n, .int .i64 k] w (PutPost l n k B w) := by
  obtain ⟨v, cp, rfl, h1, h2⟩ := (Rd.of_own h).form
  have HR := Lib.hid h
  clear h
  go_enter Tryz.func72, Tryz.ntmps72
  go_wp2_with fail
  go_loopw [0, 2] (fun v i wr => ∃ (m : Nat) (l' : List UInt8), i = .int .i64 ((m : Int) - 1) ∧ m ≤ k ∧ l'.length + m = l.length + k ∧ l' ++ be n m = l ++ be n k ∧ wr.ownsRow B 5 1 v l'.length (bcells l') ∧ Below B w wr) (fun _ i _ => (intOf i + 1).toNat)
  case atStart => exact ⟨k, l, rfl, by omega, by omega, rfl, HR.out, Below.refl _ _⟩
  case round =>
    obtain ⟨m, l', rfl, hm, hl', he, ho, hb⟩ := hrel
    have HE := Lib.hid he
    have HO := Lib.hid ho
    have HB := Lib.hid hb
    clear he ho hb
    by_cases hm0 : m = 0
    · subst hm0
      go_wp2_with fail
      go_ret
      refine ⟨_, rfl, ?_, HB.out⟩
      have := HO.out
      rw [← HE.out]
      simpa [be, ← hl'] using this
    · obtain ⟨m, rfl⟩ : ∃ m', m = m' + 1 := ⟨m - 1, by omega⟩
      have hs := HB.out.size
      have hl9 : l'.length ≤ 108 := by omega
      have HBY := Lib.hid (be_byte n m)
      go_wp2_with (at_builtin; refine wpList_app1 rfl (.tmp 13) (.tmp 19) 33 rfl info_u8 Tryz.underlying33 rfl (by decide) HO.out [.int .u8 ((n : Int) / 2 ^ (8 * m) % 256)] rfl rfl (by simp) ⟨rfl, by simp [Value.oneCell']⟩ (by omega) (by omega) ?_; intro v' w' ho' hg')
      have HO' := Lib.hid ho'
      have HB' := Lib.hid (HB.out.trans ((grown_below HO.out hg' (by omega)).mono (by omega)))
      clear ho' hg'
      go_wp2_with fail
      go_roundw
      case rel =>
        refine ⟨m, l' ++ [UInt8.ofNat (n / 256 ^ m)], by go_num, by omega, by simp; omega, ?_, ?_, HB'.out⟩
        · rw [← HE.out, List.append_assoc]; rfl
        · have := HO'.out
          rw [HBY.out] at this
          rw [List.length_append, bcells_app]
          exact this
      case measure => simp [intOf] <;> omega
theorem put_ref (l : List UInt8) (v : Value) (n k B : Nat) (w : World) (h : w.ownsRow B 5 1 v l.length (bcells l)) (hl : l.length ≤ 100) (hk : k ≤ 8) (hB : B ≤ w.heap.size) : Calls Tryz.prog 35 #[v, .int .u64 n, .int .i64 k] w (PutPost l n k B w) := by
  obtain ⟨v, cp, rfl, h1, h2⟩ := (Rd.of_own h).form
  have HR := Lib.hid h
  clear h
  go_enter Tryz.func35, Tryz.ntmps35
  go_wp2_with fail
  go_loopw [0, 7] (fun v i wr => ∃ (m : Nat) (l' : List UInt8), i = .int .i64 ((m : Int) - 1) ∧ m ≤ k ∧ l'.length + m = l.length + k ∧ l' ++ be n m = l ++ be n k ∧ wr.ownsRow B 5 1 v l'.length (bcells l') ∧ Below B w wr) (fun _ i _ => (intOf i + 1).toNat)
  case atStart => exact ⟨k, l, rfl, by omega, by omega, rfl, HR.out, Below.refl _ _⟩
  case round =>
    obtain ⟨m, l', rfl, hm, hl', he, ho, hb⟩ := hrel
    have HE := Lib.hid he
    have HO := Lib.hid ho
    have HB := Lib.hid hb
    clear he ho hb
    by_cases hm0 : m = 0
    · subst hm0
      go_wp2_with fail
      go_ret
      refine ⟨_, rfl, ?_, HB.out⟩
      have := HO.out
      rw [← HE.out]
      simpa [be, ← hl'] using this
    · obtain ⟨m, rfl⟩ : ∃ m', m = m' + 1 := ⟨m - 1, by omega⟩
      have hs := HB.out.size
      have hl9 : l'.length ≤ 108 := by omega
      have HBY := Lib.hid (be_byte n m)
      go_wp2_with (at_builtin; refine wpList_app1 rfl (.tmp 14) (.tmp 20) 33 rfl info_u8 Tryz.underlying33 rfl (by decide) HO.out [.int .u8 ((n : Int) / 2 ^ (8 * m) % 256)] rfl rfl (by simp) ⟨rfl, by simp [Value.oneCell']⟩ (by omega) (by omega) ?_; intro v' w' ho' hg')
      have HO' := Lib.hid ho'
      have HB' := Lib.hid (HB.out.trans ((grown_below HO.out hg' (by omega)).mono (by omega)))
      clear ho' hg'
      go_wp2_with fail
      go_roundw
      case rel =>
        refine ⟨m, l' ++ [UInt8.ofNat (n / 256 ^ m)], by go_num, by omega, by simp; omega, ?_, ?_, HB'.out⟩
        · rw [← HE.out, List.append_assoc]; rfl
        · have := HO'.out
          rw [HBY.out] at this
          rw [List.length_append, bcells_app]
          exact this
      case measure => simp [intOf] <;> omega
end Go.Proofs.YtajhndakkaniaaaGreatDoor
