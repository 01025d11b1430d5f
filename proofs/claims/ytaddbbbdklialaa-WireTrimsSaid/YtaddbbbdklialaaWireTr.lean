/- Data trimmed (wire, chapter 10). -/
import Derived.Test.YtaddbbbdklialaaWireReads
namespace Go.Proofs.Ytaddbbbdklialaa
open Go.RowKit

theorem trimmed_enc (x : Fr) (hm : 0 ≤ x.msg) (w : World) : Calls Try.prog 15 #[(trimF x).val (.slice none 0 0)] w (EncPost (trimF x) w) := by
  have h1 : (trimF x).data = [] := rfl
  have h2 : 0 ≤ (trimF x).msg := hm
  generalize trimF x = y at *
  exact encode_any y _ h2 w (by rw [h1]; exact Rd.nil _ _)
def trimB (l : List UInt8) : Prop := goodB l ∧ (rdF l).kind = 1
def TrimPost (l : List UInt8) (w : World) (e : Ending) (w' : World) : Prop :=
  (trimB l ∧ (∃ v, e = .returned (.tuple #[v, .bool true]) ∧ Rd w' 1 v (encF (trimF (rdF l))).length (bcells (encF (trimF (rdF l))))) ∨ ¬ trimB l ∧ e = .returned (.tuple #[.slice none 0 0, .bool false])) ∧ Below w.heap.size w w'
set_option maxHeartbeats 4000000 in
theorem trim_any (l : List UInt8) (v : Value) (w : World) (h : Rd w 1 v l.length (bcells l)) : Calls Try.prog 22 #[v] w (TrimPost l w) := by
  obtain ⟨v, cp, rfl, h1, h2⟩ := h.form
  have HR := Lib.hid h
  clear h
  go_enter Try.func22, Try.ntmps22
  go_wp2_with (go_at_call 10; refine (decode_any l _ _ HR.out).mono ?_)
  rintro e w1 ⟨⟨hg, v1, rfl, hr1⟩ | ⟨hg, rfl⟩, hb1⟩
  rotate_left
  · have HG := Lib.hid hg
    have B1 := Lib.hid (hb1.alloc hb1.size (.cells #[.int .i64 0, .int .i64 0, .int .i64 0, .int .i64 0, .int .u64 0, .int .i64 0, .int .i64 0, .int .i64 0, .int .i64 0, .slice none 0 0] 26))
    clear hg hb1
    unfold zeroF
    go_wp2_with fail
    exact done (.tuple #[.slice none 0 0, .bool false]) rfl (by simp [results, Try.results22, go_sem]) ⟨.inr ⟨fun hh => HG.out hh.1, rfl⟩, B1.out⟩
  have HG := Lib.hid hg
  have HOK := Lib.hid hg.2.1
  obtain ⟨v1, c1, rfl, h3, h4⟩ := hr1.form
  have hT : trimB l ↔ (rdF l).kind = 1 := ⟨fun hh => hh.2, fun hh => ⟨hg, hh⟩⟩
  have HT := Lib.hid hT
  have hD : l.drop 26 = (rdF l).data := rfl
  have hT2 : encF (trimF (rdF l)) = encF (trimF (rdF l)) := rfl
  clear hg hT hT2
  rw [hD] at *
  clear hD
  unfold TrimPost
  generalize hx : rdF l = x at *
  have HX := Lib.hid hx
  clear hx
  have B1 := Lib.hid (hb1.alloc hb1.size (.cells #[.int .i64 x.kind, .int .i64 x.src, .int .i64 x.dst, .int .i64 x.prio, .int .u64 x.msg, .int .i64 x.off, .int .i64 x.len, .int .i64 x.total, .int .i64 x.num, .slice v1 x.data.length c1] 26))
  have O1 := Lib.hid (Ob.new w1 #[.int .i64 x.kind, .int .i64 x.src, .int .i64 x.dst, .int .i64 x.prio, .int .u64 x.msg, .int .i64 x.off, .int .i64 x.len, .int .i64 x.total, .int .i64 x.num, .slice v1 x.data.length c1] 26)
  have R1 := Lib.hid (Rd.alloc hr1 (.cells #[.int .i64 x.kind, .int .i64 x.src, .int .i64 x.dst, .int .i64 x.prio, .int .u64 x.msg, .int .i64 x.off, .int .i64 x.len, .int .i64 x.total, .int .i64 x.num, .slice v1 x.data.length c1] 26))
  clear hb1 hr1
  unfold Fr.val
  by_cases hk : x.kind = 1
  rotate_left
  · have hb : (x.kind == 1) = false := beq_eq_false_iff_ne.2 hk
    have hb' : (x.kind != 1) = true := by simp [bne, hb]
    have HK := Lib.hid hk
    clear hk
    go_wp2_with fail
    exact done (.tuple #[.slice none 0 0, .bool false]) rfl (by simp [results, Try.results22, go_sem]) ⟨.inr ⟨fun hh => HK.out (HT.out.1 hh), rfl⟩, B1.out⟩
  · have hb : (x.kind == 1) = true := beq_iff_eq.2 hk
    have hb' : (x.kind != 1) = false := by simp [bne, hb]
    have HK := Lib.hid hk
    clear hk
    have HEN := Lib.hid (fun W => trimmed_enc x HOK.out.msg.1 W)
    go_wp2_with (go_at_call 32; refine (header_any x v1 x.data.length c1 _).mono ?_)
    rintro e w2 ⟨rfl, hb2⟩
    have B2 := Lib.hid (B1.out.trans (hb2.mono B1.out.size))
    clear hb2
    have HOT := Lib.hid (ok_trim HOK.out HK.out)
    generalize (trimF x).val (.slice none 0 0) = V at *
    generalize hy : trimF x = y at *
    have HYE := Lib.hid hy
    clear hy
    go_wp2_with (go_at_call 15; refine (HEN.out _).mono ?_)
    rintro e w3 ⟨⟨_, v3, rfl, ho3⟩ | ⟨hno, _⟩, hb3⟩
    rotate_left
    · exact absurd HOT.out hno
    have B3 := Lib.hid (B2.out.trans (hb3.mono B2.out.size))
    have R3 := Lib.hid (Rd.of_own ho3)
    clear ho3 hb3
    go_wp2_with fail
    have hfin : encF (trimF (rdF l)) = encF y := by rw [HX.out, HYE.out]
    refine done (.tuple #[v3, .bool true]) rfl (by simp [results, Try.results22, go_sem]) ⟨.inl ⟨HT.out.2 HK.out, v3, rfl, ?_⟩, B3.out⟩
    rw [hfin]
    exact R3.out
end Go.Proofs.Ytaddbbbdklialaa
