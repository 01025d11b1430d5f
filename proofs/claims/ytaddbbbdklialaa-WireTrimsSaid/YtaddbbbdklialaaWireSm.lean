/- Sizes, heads, trimmed frames, and what the document fixes (wire, chapter 10). -/
import Derived.Test.YtaddbbbdklialaaWireSame
import Derived.Test.YtaddbbbdklialaaAlike
namespace Go.Proofs.Ytaddbbbdklialaa
open Go.RowKit

def sizeI (f : Fr) : Int := if f.kind = 1 then 26 + f.len else 26
theorem size_any (f : Fr) (v : Value) (w : World) (hl : -1000000 ≤ f.len ∧ f.len ≤ 1000000) : Calls Try.prog 18 #[f.val v] w fun e w' => e = .returned (.int .i64 (sizeI f)) ∧ Below w.heap.size w w' := by
  unfold Fr.val sizeI
  by_cases hk : f.kind = 1
  · rw [if_pos hk]
    have hb : (f.kind == 1) = true := beq_iff_eq.2 hk
    clear hk
    go_enter Try.func18, Try.ntmps18
    go_wp2_with fail
    go_ret
    exact ⟨rfl, (Below.refl _ _).alloc (Nat.le_refl _) _⟩
  · rw [if_neg hk]
    have hb : (f.kind == 1) = false := beq_eq_false_iff_ne.2 hk
    clear hk
    go_enter Try.func18, Try.ntmps18
    go_wp2_with fail
    go_ret
    exact ⟨rfl, (Below.refl _ _).alloc (Nat.le_refl _) _⟩
def zF : Fr := ⟨0, 0, 0, 0, 0, 0, 0, 0, 0, []⟩
def f5 : Fr := ⟨5, 1, 2, 0, 7, 0, 0, 0, 0, []⟩
theorem ok5 : okF f5 := ⟨by decide, by decide, by decide, by decide, by decide, by decide, by decide, by decide, by decide, by decide, rfl⟩
set_option maxHeartbeats 4000000 in
theorem awake_any (w : World) : Calls Try.prog 9 #[] w (TrueBelow w) := by
  have HE := Lib.hid (encode_any f5 (.slice none 0 0) (by decide) w (Rd.nil _ _))
  go_enter Try.func9, Try.ntmps9
  go_wp2_with (go_at_call 15; refine HE.out.mono ?_)
  rintro e w1 ⟨⟨_, v1, rfl, ho⟩ | ⟨hno, _⟩, hb1⟩
  rotate_left
  · exact absurd ok5 hno
  rw [enc_len] at ho
  obtain ⟨v1, c1, rfl, h1, h2⟩ := (Rd.of_own ho).form
  have B1 := Lib.hid hb1
  clear ho hb1
  go_wp2_with (go_at_call 10; refine (decode_any [] _ _ (Rd.nil _ _)).mono ?_)
  rintro e w2 ⟨⟨hg, _⟩ | ⟨_, rfl⟩, hb2⟩
  · exact absurd hg.1 (by decide)
  have B2 := Lib.hid (B1.out.trans (hb2.mono B1.out.size))
  clear hb2
  have hs2 := B2.out.size
  have h26 : (((26 + f5.data.length : Nat) : Int) == 26) = true := by decide
  unfold zeroF
  go_wp2_with (go_at_call 18; refine (size_any ⟨1, 0, 0, 0, 0, 0, 5, 0, 0, []⟩ (.slice none 0 0) _ (by decide)).mono ?_)
  rintro e w3 ⟨rfl, hb3⟩
  rw [show sizeI ⟨1, 0, 0, 0, 0, 0, 5, 0, 0, []⟩ = 31 from rfl]
  go_wp2_with fail
  go_ret
  exact ⟨rfl, (B2.out.alloc B2.out.size (.cells #[.int .i64 0, .int .i64 0, .int .i64 0, .int .i64 0, .int .u64 0, .int .i64 0, .int .i64 0, .int .i64 0, .int .i64 0, .slice none 0 0] 26)).trans (hb3.mono (B2.out.alloc B2.out.size (.cells #[.int .i64 0, .int .i64 0, .int .i64 0, .int .i64 0, .int .u64 0, .int .i64 0, .int .i64 0, .int .i64 0, .int .i64 0, .slice none 0 0] 26)).size)⟩
theorem header_any (f : Fr) (v : Option Addr) (n c : Nat) (w : World) : Calls Try.prog 32 #[f.val (.slice v n c), .int .i64 0] w fun e w' => e = .returned ((trimF f).val (.slice none 0 0)) ∧ Below w.heap.size w w' := by
  unfold Fr.val
  go_enter Try.func32, Try.ntmps32
  go_wp2_with fail
  refine done ((trimF f).val (.slice none 0 0)) rfl (by simp [trimF, Fr.val, results, Try.results32, go_sem]) ⟨rfl, ((Below.refl _ _).alloc (Nat.le_refl _) _).alloc (by simp) _⟩
theorem trimmed_ref (f : Fr) (v : Option Addr) (n c : Nat) (w : World) : Calls Try.prog 23 #[f.val (.slice v n c)] w fun e w' => e = .returned ((trimF f).val (.slice none 0 0)) ∧ Below w.heap.size w w' := by
  unfold Fr.val
  go_enter Try.func23, Try.ntmps23
  go_wp2_with fail
  refine done ((trimF f).val (.slice none 0 0)) rfl (by simp [trimF, Fr.val, results, Try.results23, go_sem]) ⟨rfl, ((Below.refl _ _).alloc (Nat.le_refl _) _).alloc (by simp) _⟩
end Go.Proofs.Ytaddbbbdklialaa
