/- The law's own model of a queue (chapter 12): its contracts. -/
import Derived.Test.YtodkcbglbolfhaaQueueRem
namespace Go.Proofs.Ytodkcbglbolfhaa
open Go.RowKit

def mcells (room : Int) (S : Nat → Value) : Array Value := #[.int .i64 room, S 0, S 1, S 2, S 3, S 4, S 5, S 6, S 7]
theorem m_get (room : Int) (S : Nat → Value) (p : Nat) (h : p < 8) : (mcells room S)[1 + p]? = some (S p) := by
  rcases eight h with rfl | rfl | rfl | rfl | rfl | rfl | rfl | rfl <;> rfl
theorem m_set (room : Int) (S : Nat → Value) (p : Nat) (h : p < 8) (x : Value) : (mcells room S).setIfInBounds (1 + p) x = mcells room (upd S p x) := by
  rcases eight h with rfl | rfl | rfl | rfl | rfl | rfl | rfl | rfl <;> rfl
/-- the model at block b: its lines at S, which are L -/
structure Md (b : Nat) (S : Nat → Value) (room : Int) (L : Nat → List Bx) (w : World) : Prop where
  ob : Ob w b (mcells room S) 45
  rd : ∀ i, i < 8 → Rd w 2 (S i) (L i).length ((L i).flatMap Bx.box)
theorem Md.below {b : Nat} {S : Nat → Value} {room : Int} {L : Nat → List Bx} {w w' : World} (h : Md b S room L w) (hb : Below w.heap.size w w') : Md b S room L w' :=
  ⟨h.ob.below hb, fun i hi => (h.rd i hi).below hb⟩
theorem Md.alloc {b : Nat} {S : Nat → Value} {room : Int} {L : Nat → List Bx} {w : World} (h : Md b S room L w) (o : Obj) : Md b S room L (w.alloc o) := h.below ((Below.refl _ _).alloc (Nat.le_refl _) o)
theorem Md.drew {b : Nat} {S : Nat → Value} {room : Int} {L : Nat → List Bx} {w : World} (h : Md b S room L w) : Md b S room L w.drew := h.below (Below.refl _ _).drew
theorem Md.kept {b : Nat} {S : Nat → Value} {room : Int} {L : Nat → List Bx} {w w' : World} {M : Nat → Prop} (h : Md b S room L w) (hk : Kept M w w') (hb : ¬ M b) (hM : ∀ i, i < 8 → ∀ a l c, S i = .slice (some a) l c → ¬ M a.block) : Md b S room L w' :=
  ⟨h.ob.kept hk hb, fun i hi => (h.rd i hi).kept hk (hM i hi)⟩
theorem Md.at {b : Nat} {S : Nat → Value} {room : Int} {L : Nat → List Bx} {w : World} (h : Md b S room L w) (k : Nat) (hk : k < 8) : ∃ a c, S k = .slice a (L k).length c ∧ w.cell? ⟨b, 1 + k, none⟩ = some (.slice a (L k).length c) ∧ (L k).length ≤ c ∧ c ≤ 9223372036854775807 := by
  obtain ⟨a, c, h1, h2, h3⟩ := (h.rd k hk).form
  exact ⟨a, c, h1, by rw [h.ob.blk.2.1, m_get _ _ _ hk, h1], h2, h3⟩
def sumS (l : List Bx) : Int := l.foldl (fun n x => n + x.sz) 0
theorem sumS_take (l : List Bx) (i : Nat) (h : i < l.length) : sumS (l.take (i + 1)) = sumS (l.take i) + l[i].sz := by
  unfold sumS; rw [List.take_succ_eq_append_getElem h, List.foldl_append]; rfl
theorem sumS_b (l : List Bx) : 0 ≤ sumS l ∧ sumS l ≤ l.length * 1073741824 := by
  have key : ∀ (l : List Bx) (a : Int), a ≤ l.foldl (fun n x => n + x.sz) a ∧ l.foldl (fun n x => n + x.sz) a ≤ a + l.length * 1073741824 := by
    intro l
    induction l with
    | nil => intro a; simp
    | cons x l ih =>
      intro a
      have h1 := ih (a + x.sz)
      have h2 := szBx x
      rw [List.foldl_cons, List.length_cons]
      omega
  have := key l 0
  unfold sumS; omega
def usedTo (L : Nat → List Bx) : Nat → Int
  | 0 => 0
  | k + 1 => usedTo L k + sumS (L k)
theorem usedTo_b (L : Nat → List Bx) : ∀ k, 0 ≤ usedTo L k ∧ usedTo L k ≤ lenTo L k * 1073741824
  | 0 => by simp [usedTo, lenTo]
  | k + 1 => by
    have h1 := usedTo_b L k
    have h2 := sumS_b (L k)
    rw [usedTo, lenTo]; omega
theorem lenTo_mono (L : Nat → List Bx) (k : Nat) : ∀ j, lenTo L k ≤ lenTo L (k + j)
  | 0 => Nat.le_refl _
  | j + 1 => Nat.le_trans (lenTo_mono L k j) (by show _ ≤ lenTo L (k + j) + _; omega)
theorem size_any (x : Bx) (w : World) : Calls Try.prog 17 #[boxV x] w fun e w' => e = .returned (.int .i64 x.sz) ∧ Below w.heap.size w w' := by
  have HX := Lib.hid (show min (max x.n 0) 1073741824 = x.sz by unfold Bx.sz clampI; split; omega; split <;> omega)
  unfold boxV
  go_enter Try.func17, Try.ntmps17
  go_wp2_with fail
  go_ret
  exact ⟨ret_int HX.out, (Below.refl _ _).alloc (Nat.le_refl _) _⟩
set_option maxHeartbeats 2000000 in
theorem used_mod (b : Nat) (S : Nat → Value) (room : Int) (L : Nat → List Bx) (w : World) (h : Md b S room L w) (hN : lenTo L 8 ≤ 100) : Calls Try.prog 16 #[.pointer (some ⟨b, 0, none⟩)] w fun e w' => e = .returned (.int .i64 (usedTo L 8)) ∧ Below w.heap.size w w' := by
  have HM := Lib.hid h
  clear h
  go_enter Try.func16, Try.ntmps16
  go_wp2_with fail
  go_loopw [3, 4] (fun n k wr => ∃ (j : Nat), n = .int .i64 (usedTo L j) ∧ k = .int .i64 j ∧ j ≤ 8 ∧ Below w.heap.size w wr) (fun _ k _ => 8 - (intOf k).toNat)
  case atStart => exact ⟨0, rfl, rfl, by omega, Below.refl _ _⟩
  case round =>
    obtain ⟨j, rfl, rfl, hj, hb⟩ := hrel
    have HB := Lib.hid hb
    clear hb
    by_cases hlt : j < 8
    · have hd8 : decide ((j : Int) < 8) = true := decide_eq_true (by omega)
      go_wp2_with fail
      go_loopw [3, 5] (fun n i wq => ∃ (i' : Nat), n = .int .i64 (usedTo L j + sumS ((L j).take i')) ∧ i = .int .i64 i' ∧ i' ≤ (L j).length ∧ Below w.heap.size w wq) (fun _ i _ => (L j).length - (intOf i).toNat)
      case atStart => exact ⟨0, by simp [sumS], rfl, by omega, HB.out⟩
      case round =>
        obtain ⟨i, rfl, rfl, hi, hb⟩ := hrel
        have HMq := Lib.hid (HM.out.below hb)
        have HBq := Lib.hid hb
        clear hb
        obtain ⟨a, c, hS, c1, h1, h2⟩ := HMq.out.at j hlt
        have lb := HMq.out.ob.lt
        have HS := Lib.hid hS
        clear hS
        by_cases hil : i < (L j).length
        · have hr := HMq.out.rd j hlt
          rw [HS.out] at hr
          obtain ⟨b', o', rfl, hb', cw⟩ := Rd.row rowBox (by decide) hr i hil
          have c2 := cw 0 (.int .i64 (L j)[i].n) rfl
          have c3 := cw 1 (.int .i64 (L j)[i].v) rfl
          rw [Nat.add_zero] at c2
          have hT := sumS_take (L j) i hil
          have hb1 := usedTo_b L j
          have hb2 := sumS_b ((L j).take i)
          have hb3 : lenTo L j + (L j).length ≤ 100 := by
            have h1 := lenTo_mono L (j + 1) (8 - (j + 1))
            rw [show j + 1 + (8 - (j + 1)) = 8 by omega] at h1
            rw [lenTo] at h1
            omega
          rw [List.length_take] at hb2
          have hsz := szBx (L j)[i]
          have HT := Lib.hid hT
          clear cw hr hT
          have hsm : 0 ≤ usedTo L j + sumS ((L j).take i) ∧ usedTo L j + sumS ((L j).take i) ≤ 107374182400 := by omega
          clear hb1 hb2
          go_wp2_with (go_at_call 17; refine (size_any (L j)[i] _).mono ?_; rintro e w4 ⟨rfl, hb4⟩)
          go_roundw
          case rel =>
            exact ⟨i + 1, by rw [HT.out, ← Int.add_assoc], by go_num, by omega, HBq.out.trans (hb4.mono HBq.out.size)⟩
          case measure => simp [intOf]; omega
        · obtain rfl : i = (L j).length := by omega
          go_wp2_with fail
          go_roundw
          case rel => exact ⟨j + 1, by rw [List.take_length]; rfl, by go_num, by omega, HBq.out⟩
          case measure => simp [intOf]; omega
    · obtain rfl : j = 8 := by omega
      go_wp2_with fail
      go_ret
      exact ⟨rfl, HB.out⟩
def FirstPost (L : Nat → List Bx) (w : World) (e : Ending) (w' : World) : Prop := ∃ t : Int, e = .returned (.int .i64 t) ∧ TopIs L t ∧ w = w'
set_option maxHeartbeats 2000000 in
theorem first_mod (b : Nat) (S : Nat → Value) (room : Int) (L : Nat → List Bx) (w : World) (h : Md b S room L w) : Calls Try.prog 18 #[.pointer (some ⟨b, 0, none⟩)] w (FirstPost L w) := by
  have HM := Lib.hid h
  clear h
  go_enter Try.func18, Try.ntmps18
  go_wp2_with fail
  go_loopw [3] (fun k wr => ∃ (j : Nat), k = .int .i64 ((j : Int) - 1) ∧ j ≤ 8 ∧ (∀ i, j ≤ i → i < 8 → L i = []) ∧ w = wr) (fun k _ => (intOf k + 1).toNat)
  case atStart => exact ⟨8, rfl, by omega, fun i h1 h2 => by omega, rfl⟩
  case round =>
    obtain ⟨j, rfl, hj, hall, rfl⟩ := hrel
    have HA := Lib.hid hall
    clear hall
    by_cases h0 : j = 0
    · subst h0
      go_wp2_with fail
      go_ret
      exact ⟨-1, rfl, .inl ⟨rfl, fun i hi => HA.out i (Nat.zero_le _) hi⟩, rfl⟩
    · obtain ⟨j, rfl⟩ : ∃ m, j = m + 1 := ⟨j - 1, by omega⟩
      have hlt : j < 8 := by omega
      obtain ⟨a, c, hS, c1, h1, h2⟩ := HM.out.at j hlt
      have lb := HM.out.ob.lt
      have HS := Lib.hid hS
      clear hS
      rcases (by omega : 0 < (L j).length ∨ (L j).length ≤ 0) with hl | hl
      · go_wp2_with fail
        go_ret
        exact ⟨_, rfl, .inr ⟨j, by omega, hlt, fun he => by rw [he] at hl; simp at hl, fun i h1 h2 => HA.out i h1 h2⟩, rfl⟩
      · have he := List.eq_nil_of_length_eq_zero (show (L j).length = 0 by omega)
        have HE := Lib.hid he
        clear he
        go_wp2_with fail
        go_roundw
        case rel => exact ⟨j, by go_num, by omega, fun i h1 h2 => by rcases Nat.lt_or_eq_of_le h1 with h3 | rfl; exact HA.out i h3 h2; exact HE.out, trivial⟩
        case measure => simp [intOf] <;> omega
end Go.Proofs.Ytodkcbglbolfhaa
