/- Whether two frames are alike (wire, chapter 10, and the reference's). Printed by gensame.py. -/
import Derived.Test.YtaddbbbdklialaaWireDec
namespace Go.Proofs.Ytaddbbbdklialaa
open Go.RowKit
def SamePost (f g : Fr) (w : World) (e : Ending) (w' : World) : Prop := ∃ b : Bool, e = .returned (.bool b) ∧ (b = true ↔ f = g) ∧ Below w.heap.size w w'
set_option maxHeartbeats 4000000 in
theorem same_any (f g : Fr) (v u : Value) (w : World) (hf : Rd w 1 v f.data.length (bcells f.data)) (hg : Rd w 1 u g.data.length (bcells g.data)) : Calls Try.prog 20 #[f.val v, g.val u] w (SamePost f g w) := by
  obtain ⟨v, cp, rfl, h1, h2⟩ := hf.form
  obtain ⟨u, cq, rfl, h3, h4⟩ := hg.form
  have HF := Lib.hid hf
  have HG := Lib.hid hg
  clear hf hg
  have hNo : (∀ w', Below w.heap.size w w' → f ≠ g → SamePost f g w (.returned (.bool false)) w') := fun w' hb hn => ⟨false, rfl, by simp [hn], hb⟩
  have hYes : (∀ w', Below w.heap.size w w' → f = g → SamePost f g w (.returned (.bool true)) w') := fun w' hb hn => ⟨true, rfl, by simp [hn], hb⟩
  have HN := Lib.hid hNo
  have HY := Lib.hid hYes
  clear hNo hYes
  have BE := Lib.hid (((Below.refl w.heap.size w).alloc (Nat.le_refl _) (.cells #[.int .i64 f.kind, .int .i64 f.src, .int .i64 f.dst, .int .i64 f.prio, .int .u64 f.msg, .int .i64 f.off, .int .i64 f.len, .int .i64 f.total, .int .i64 f.num, .slice v f.data.length cp] 26)).alloc (by simp) (.cells #[.int .i64 g.kind, .int .i64 g.src, .int .i64 g.dst, .int .i64 g.prio, .int .u64 g.msg, .int .i64 g.off, .int .i64 g.len, .int .i64 g.total, .int .i64 g.num, .slice u g.data.length cq] 26))
  unfold Fr.val
  by_cases h_kind : f.kind = g.kind
  rotate_left
  · have b_kind : (f.kind == g.kind) = false := beq_eq_false_iff_ne.2 h_kind
    have HQ := Lib.hid h_kind
    clear h_kind
    go_enter Try.func20, Try.ntmps20
    go_wp2_with fail
    go_ret
    exact HN.out _ BE.out (fun e => HQ.out (congrArg Fr.kind e))
  have b_kind : (f.kind == g.kind) = true := beq_iff_eq.2 h_kind
  have H_kind := Lib.hid h_kind
  clear h_kind
  by_cases h_src : f.src = g.src
  rotate_left
  · have b_src : (f.src == g.src) = false := beq_eq_false_iff_ne.2 h_src
    have HQ := Lib.hid h_src
    clear h_src
    go_enter Try.func20, Try.ntmps20
    go_wp2_with fail
    go_ret
    exact HN.out _ BE.out (fun e => HQ.out (congrArg Fr.src e))
  have b_src : (f.src == g.src) = true := beq_iff_eq.2 h_src
  have H_src := Lib.hid h_src
  clear h_src
  by_cases h_dst : f.dst = g.dst
  rotate_left
  · have b_dst : (f.dst == g.dst) = false := beq_eq_false_iff_ne.2 h_dst
    have HQ := Lib.hid h_dst
    clear h_dst
    go_enter Try.func20, Try.ntmps20
    go_wp2_with fail
    go_ret
    exact HN.out _ BE.out (fun e => HQ.out (congrArg Fr.dst e))
  have b_dst : (f.dst == g.dst) = true := beq_iff_eq.2 h_dst
  have H_dst := Lib.hid h_dst
  clear h_dst
  by_cases h_prio : f.prio = g.prio
  rotate_left
  · have b_prio : (f.prio == g.prio) = false := beq_eq_false_iff_ne.2 h_prio
    have HQ := Lib.hid h_prio
    clear h_prio
    go_enter Try.func20, Try.ntmps20
    go_wp2_with fail
    go_ret
    exact HN.out _ BE.out (fun e => HQ.out (congrArg Fr.prio e))
  have b_prio : (f.prio == g.prio) = true := beq_iff_eq.2 h_prio
  have H_prio := Lib.hid h_prio
  clear h_prio
  by_cases h_msg : f.msg = g.msg
  rotate_left
  · have b_msg : (f.msg == g.msg) = false := beq_eq_false_iff_ne.2 h_msg
    have HQ := Lib.hid h_msg
    clear h_msg
    go_enter Try.func20, Try.ntmps20
    go_wp2_with fail
    go_ret
    exact HN.out _ BE.out (fun e => HQ.out (congrArg Fr.msg e))
  have b_msg : (f.msg == g.msg) = true := beq_iff_eq.2 h_msg
  have H_msg := Lib.hid h_msg
  clear h_msg
  by_cases h_off : f.off = g.off
  rotate_left
  · have b_off : (f.off == g.off) = false := beq_eq_false_iff_ne.2 h_off
    have HQ := Lib.hid h_off
    clear h_off
    go_enter Try.func20, Try.ntmps20
    go_wp2_with fail
    go_ret
    exact HN.out _ BE.out (fun e => HQ.out (congrArg Fr.off e))
  have b_off : (f.off == g.off) = true := beq_iff_eq.2 h_off
  have H_off := Lib.hid h_off
  clear h_off
  by_cases h_len : f.len = g.len
  rotate_left
  · have b_len : (f.len == g.len) = false := beq_eq_false_iff_ne.2 h_len
    have HQ := Lib.hid h_len
    clear h_len
    go_enter Try.func20, Try.ntmps20
    go_wp2_with fail
    go_ret
    exact HN.out _ BE.out (fun e => HQ.out (congrArg Fr.len e))
  have b_len : (f.len == g.len) = true := beq_iff_eq.2 h_len
  have H_len := Lib.hid h_len
  clear h_len
  by_cases h_total : f.total = g.total
  rotate_left
  · have b_total : (f.total == g.total) = false := beq_eq_false_iff_ne.2 h_total
    have HQ := Lib.hid h_total
    clear h_total
    go_enter Try.func20, Try.ntmps20
    go_wp2_with fail
    go_ret
    exact HN.out _ BE.out (fun e => HQ.out (congrArg Fr.total e))
  have b_total : (f.total == g.total) = true := beq_iff_eq.2 h_total
  have H_total := Lib.hid h_total
  clear h_total
  by_cases h_num : f.num = g.num
  rotate_left
  · have b_num : (f.num == g.num) = false := beq_eq_false_iff_ne.2 h_num
    have HQ := Lib.hid h_num
    clear h_num
    go_enter Try.func20, Try.ntmps20
    go_wp2_with fail
    go_ret
    exact HN.out _ BE.out (fun e => HQ.out (congrArg Fr.num e))
  have b_num : (f.num == g.num) = true := beq_iff_eq.2 h_num
  have H_num := Lib.hid h_num
  clear h_num
  by_cases h_data : f.data = g.data
  · have HD : Hid (decide (f.data = g.data) = true) := Lib.hid (by simp [h_data])
    have b_data : (f.data == g.data) = true := by simp [h_data]
    have HQ := Lib.hid h_data
    clear h_data
    go_enter Try.func20, Try.ntmps20
    go_wp2_with (go_at_call 26; refine (equal_any _ _ f.data g.data _ (HF.out.below BE.out) (HG.out.below BE.out)).mono ?_; rintro e w' ⟨rfl, rfl⟩; rw [HD.out])
    go_ret
    refine HY.out _ BE.out ?_
    obtain ⟨a1, a2, a3, a4, a5, a6, a7, a8, a9, a10⟩ := f
    obtain ⟨c1, c2, c3, c4, c5, c6, c7, c8, c9, c10⟩ := g
    have e_kind := H_kind.out
    have e_src := H_src.out
    have e_dst := H_dst.out
    have e_prio := H_prio.out
    have e_msg := H_msg.out
    have e_off := H_off.out
    have e_len := H_len.out
    have e_total := H_total.out
    have e_num := H_num.out
    have e_data := HQ.out
    simp only at e_kind e_src e_dst e_prio e_msg e_off e_len e_total e_num e_data
    subst e_kind e_src e_dst e_prio e_msg e_off e_len e_total e_num e_data
    rfl
  
  · have HD : Hid (decide (f.data = g.data) = false) := Lib.hid (by simp [h_data])
    have b_data : (f.data == g.data) = false := by simp [h_data]
    have HQ := Lib.hid h_data
    clear h_data
    go_enter Try.func20, Try.ntmps20
    go_wp2_with (go_at_call 26; refine (equal_any _ _ f.data g.data _ (HF.out.below BE.out) (HG.out.below BE.out)).mono ?_; rintro e w' ⟨rfl, rfl⟩; rw [HD.out])
    go_ret
    exact HN.out _ BE.out (fun e => HQ.out (congrArg Fr.data e))
set_option maxHeartbeats 4000000 in
theorem same_ref (f g : Fr) (v u : Value) (w : World) (hf : Rd w 1 v f.data.length (bcells f.data)) (hg : Rd w 1 u g.data.length (bcells g.data)) : Calls Try.prog 12 #[f.val v, g.val u] w (SamePost f g w) := by
  obtain ⟨v, cp, rfl, h1, h2⟩ := hf.form
  obtain ⟨u, cq, rfl, h3, h4⟩ := hg.form
  have HF := Lib.hid hf
  have HG := Lib.hid hg
  clear hf hg
  have hNo : (∀ w', Below w.heap.size w w' → f ≠ g → SamePost f g w (.returned (.bool false)) w') := fun w' hb hn => ⟨false, rfl, by simp [hn], hb⟩
  have hYes : (∀ w', Below w.heap.size w w' → f = g → SamePost f g w (.returned (.bool true)) w') := fun w' hb hn => ⟨true, rfl, by simp [hn], hb⟩
  have HN := Lib.hid hNo
  have HY := Lib.hid hYes
  clear hNo hYes
  have BE := Lib.hid (((Below.refl w.heap.size w).alloc (Nat.le_refl _) (.cells #[.int .i64 f.kind, .int .i64 f.src, .int .i64 f.dst, .int .i64 f.prio, .int .u64 f.msg, .int .i64 f.off, .int .i64 f.len, .int .i64 f.total, .int .i64 f.num, .slice v f.data.length cp] 26)).alloc (by simp) (.cells #[.int .i64 g.kind, .int .i64 g.src, .int .i64 g.dst, .int .i64 g.prio, .int .u64 g.msg, .int .i64 g.off, .int .i64 g.len, .int .i64 g.total, .int .i64 g.num, .slice u g.data.length cq] 26))
  unfold Fr.val
  by_cases h_kind : f.kind = g.kind
  rotate_left
  · have b_kind : (f.kind == g.kind) = false := beq_eq_false_iff_ne.2 h_kind
    have HQ := Lib.hid h_kind
    clear h_kind
    go_enter Try.func12, Try.ntmps12
    go_wp2_with fail
    go_ret
    exact HN.out _ BE.out (fun e => HQ.out (congrArg Fr.kind e))
  have b_kind : (f.kind == g.kind) = true := beq_iff_eq.2 h_kind
  have H_kind := Lib.hid h_kind
  clear h_kind
  by_cases h_src : f.src = g.src
  rotate_left
  · have b_src : (f.src == g.src) = false := beq_eq_false_iff_ne.2 h_src
    have HQ := Lib.hid h_src
    clear h_src
    go_enter Try.func12, Try.ntmps12
    go_wp2_with fail
    go_ret
    exact HN.out _ BE.out (fun e => HQ.out (congrArg Fr.src e))
  have b_src : (f.src == g.src) = true := beq_iff_eq.2 h_src
  have H_src := Lib.hid h_src
  clear h_src
  by_cases h_dst : f.dst = g.dst
  rotate_left
  · have b_dst : (f.dst == g.dst) = false := beq_eq_false_iff_ne.2 h_dst
    have HQ := Lib.hid h_dst
    clear h_dst
    go_enter Try.func12, Try.ntmps12
    go_wp2_with fail
    go_ret
    exact HN.out _ BE.out (fun e => HQ.out (congrArg Fr.dst e))
  have b_dst : (f.dst == g.dst) = true := beq_iff_eq.2 h_dst
  have H_dst := Lib.hid h_dst
  clear h_dst
  by_cases h_prio : f.prio = g.prio
  rotate_left
  · have b_prio : (f.prio == g.prio) = false := beq_eq_false_iff_ne.2 h_prio
    have HQ := Lib.hid h_prio
    clear h_prio
    go_enter Try.func12, Try.ntmps12
    go_wp2_with fail
    go_ret
    exact HN.out _ BE.out (fun e => HQ.out (congrArg Fr.prio e))
  have b_prio : (f.prio == g.prio) = true := beq_iff_eq.2 h_prio
  have H_prio := Lib.hid h_prio
  clear h_prio
  by_cases h_msg : f.msg = g.msg
  rotate_left
  · have b_msg : (f.msg == g.msg) = false := beq_eq_false_iff_ne.2 h_msg
    have HQ := Lib.hid h_msg
    clear h_msg
    go_enter Try.func12, Try.ntmps12
    go_wp2_with fail
    go_ret
    exact HN.out _ BE.out (fun e => HQ.out (congrArg Fr.msg e))
  have b_msg : (f.msg == g.msg) = true := beq_iff_eq.2 h_msg
  have H_msg := Lib.hid h_msg
  clear h_msg
  by_cases h_off : f.off = g.off
  rotate_left
  · have b_off : (f.off == g.off) = false := beq_eq_false_iff_ne.2 h_off
    have HQ := Lib.hid h_off
    clear h_off
    go_enter Try.func12, Try.ntmps12
    go_wp2_with fail
    go_ret
    exact HN.out _ BE.out (fun e => HQ.out (congrArg Fr.off e))
  have b_off : (f.off == g.off) = true := beq_iff_eq.2 h_off
  have H_off := Lib.hid h_off
  clear h_off
  by_cases h_len : f.len = g.len
  rotate_left
  · have b_len : (f.len == g.len) = false := beq_eq_false_iff_ne.2 h_len
    have HQ := Lib.hid h_len
    clear h_len
    go_enter Try.func12, Try.ntmps12
    go_wp2_with fail
    go_ret
    exact HN.out _ BE.out (fun e => HQ.out (congrArg Fr.len e))
  have b_len : (f.len == g.len) = true := beq_iff_eq.2 h_len
  have H_len := Lib.hid h_len
  clear h_len
  by_cases h_total : f.total = g.total
  rotate_left
  · have b_total : (f.total == g.total) = false := beq_eq_false_iff_ne.2 h_total
    have HQ := Lib.hid h_total
    clear h_total
    go_enter Try.func12, Try.ntmps12
    go_wp2_with fail
    go_ret
    exact HN.out _ BE.out (fun e => HQ.out (congrArg Fr.total e))
  have b_total : (f.total == g.total) = true := beq_iff_eq.2 h_total
  have H_total := Lib.hid h_total
  clear h_total
  by_cases h_num : f.num = g.num
  rotate_left
  · have b_num : (f.num == g.num) = false := beq_eq_false_iff_ne.2 h_num
    have HQ := Lib.hid h_num
    clear h_num
    go_enter Try.func12, Try.ntmps12
    go_wp2_with fail
    go_ret
    exact HN.out _ BE.out (fun e => HQ.out (congrArg Fr.num e))
  have b_num : (f.num == g.num) = true := beq_iff_eq.2 h_num
  have H_num := Lib.hid h_num
  clear h_num
  by_cases h_data : f.data = g.data
  · have HD : Hid (decide (f.data = g.data) = true) := Lib.hid (by simp [h_data])
    have b_data : (f.data == g.data) = true := by simp [h_data]
    have HQ := Lib.hid h_data
    clear h_data
    go_enter Try.func12, Try.ntmps12
    go_wp2_with (first | refine wpList_str rfl 22 9 (.tmp 68) rfl Try.underlying22 Try.underlying5 Try.underlying9 (HF.out.below BE.out) rfl ?_ | refine wpList_str rfl 22 9 (.tmp 71) rfl Try.underlying22 Try.underlying5 Try.underlying9 (HG.out.below BE.out) rfl ?_)
    go_ret
    refine HY.out _ BE.out ?_
    obtain ⟨a1, a2, a3, a4, a5, a6, a7, a8, a9, a10⟩ := f
    obtain ⟨c1, c2, c3, c4, c5, c6, c7, c8, c9, c10⟩ := g
    have e_kind := H_kind.out
    have e_src := H_src.out
    have e_dst := H_dst.out
    have e_prio := H_prio.out
    have e_msg := H_msg.out
    have e_off := H_off.out
    have e_len := H_len.out
    have e_total := H_total.out
    have e_num := H_num.out
    have e_data := HQ.out
    simp only at e_kind e_src e_dst e_prio e_msg e_off e_len e_total e_num e_data
    subst e_kind e_src e_dst e_prio e_msg e_off e_len e_total e_num e_data
    rfl
  
  · have HD : Hid (decide (f.data = g.data) = false) := Lib.hid (by simp [h_data])
    have b_data : (f.data == g.data) = false := by simp [h_data]
    have HQ := Lib.hid h_data
    clear h_data
    go_enter Try.func12, Try.ntmps12
    go_wp2_with (first | refine wpList_str rfl 22 9 (.tmp 68) rfl Try.underlying22 Try.underlying5 Try.underlying9 (HF.out.below BE.out) rfl ?_ | refine wpList_str rfl 22 9 (.tmp 71) rfl Try.underlying22 Try.underlying5 Try.underlying9 (HG.out.below BE.out) rfl ?_)
    go_ret
    exact HN.out _ BE.out (fun e => HQ.out (congrArg Fr.data e))
end Go.Proofs.Ytaddbbbdklialaa
