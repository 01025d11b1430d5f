/- The document's window of ids (chapter 9): its contracts. -/
import Derived.Test.YtcdllhbifdgfaaaIdsEv
import Derived.Test.YtcdllhbifdgfaaaRun
namespace Go.Proofs.Ytcdllhbifdgfaaa
open Go.RowKit

abbrev TM : TypeId := 45
theorem hasr_any (l : List Int) (x : Int) (v : Value) (w : World) (h : Rd w 1 v l.length (l.map (Value.int .u64))) : Calls Try.prog 30 #[v, .int .u64 x] w fun e w' => e = .returned (.bool (l.contains x)) ∧ w = w' := by
  obtain ⟨v, cp, rfl, h1, h2⟩ := h.form
  have HR := Lib.hid h
  clear h
  go_enter Try.func30, Try.ntmps30
  go_wp2_with fail
  go_loopw [5] (fun i wr => ∃ (k : Nat), i = .int .i64 k ∧ k ≤ l.length ∧ (∀ y ∈ l.take k, y ≠ x) ∧ w = wr) (fun i _ => l.length - (intOf i).toNat)
  case atStart => exact ⟨0, rfl, Nat.zero_le _, fun y hy => (by simp at hy), rfl⟩
  case round =>
    obtain ⟨k, rfl, hk, ha, rfl⟩ := hrel
    have HA := Lib.hid ha
    clear ha
    by_cases hlt : k < l.length
    · obtain ⟨b, o, rfl, c0⟩ := HR.out.at k hlt
      have HT := Lib.hid (List.take_succ_eq_append_getElem hlt)
      have HM := Lib.hid (List.getElem_mem hlt)
      generalize l[k] = y at *
      by_cases hy : y = x
      · have hyb : (y == x) = true := beq_iff_eq.2 hy
        have HC := Lib.hid (show l.contains x = true by rw [List.contains_iff_mem, ← hy]; exact HM.out)
        clear hy
        go_wp2_with fail
        go_ret
        exact ⟨by rw [HC.out]; rfl, rfl⟩
      · have hyb : (y == x) = false := beq_eq_false_iff_ne.2 hy
        have HY := Lib.hid hy
        clear hy
        go_wp2_with fail
        go_roundw
        case rel =>
          refine ⟨k + 1, by go_num, by omega, fun z hz => ?_, trivial⟩
          rw [HT.out] at hz
          rcases List.mem_append.1 hz with hz | hz
          · exact HA.out z hz
          · rw [List.mem_singleton] at hz; subst hz; exact HY.out
        case measure => simp [intOf]; omega
    · obtain rfl : k = l.length := by omega
      have HC := Lib.hid (show l.contains x = false by
        have h0 : ¬ l.contains x = true := fun hh => by
          rw [List.contains_iff_mem] at hh
          exact HA.out x (by rw [List.take_length]; exact hh) rfl
        simpa using h0)
      go_wp2_with fail
      go_ret
      exact ⟨by rw [HC.out]; rfl, rfl⟩
/-- the document's window at block m, its list at S -/
structure Mw (m B : Nat) (S : Value) (s : Wd) (w : World) : Prop where
  ob : Ob w m #[.int .i64 s.most, .int .u64 s.mark, S] TM
  rd : Rd w 1 S s.l.length (s.l.map (Value.int .u64))
  ap : ∀ x, S.ownBlock = some x → x ≠ m ∧ B ≤ x ∧ x < w.heap.size
  mB : B ≤ m
  fm : ∀ a l c, S = .slice (some a) l c → ∃ b o, a = ⟨b, o, none⟩
theorem Mw.kept {m B : Nat} {S : Value} {s : Wd} {w w' : World} {M : Nat → Prop} (h : Mw m B S s w) (hk : Kept M w w') (hm : ¬ M m) (hS : ∀ x, S.ownBlock = some x → ¬ M x) : Mw m B S s w' :=
  ⟨h.ob.kept hk hm, h.rd.kept hk (fun a l c he => hS a.block (by rw [he]; rfl)), fun x hx => ⟨(h.ap x hx).1, (h.ap x hx).2.1, Nat.lt_of_lt_of_le (h.ap x hx).2.2 hk.size⟩, h.mB, h.fm⟩
theorem Mw.keptF {m B : Nat} {S : Value} {s : Wd} {w w' : World} (h : Mw m B S s w) (hk : Kept (fun _ => False) w w') : Mw m B S s w' := h.kept hk id fun _ _ hh => hh
/-- what a call that changes it leaves -/
def MwPost (m B : Nat) (S : Value) (s' : Wd) (w w' : World) : Prop :=
  ∃ S', Mw m B S' s' w' ∧ Kept (Only m) w w' ∧ ∀ x, S'.ownBlock = some x → S.ownBlock = some x ∨ w.heap.size ≤ x
theorem isr_any (m B : Nat) (S : Value) (s : Wd) (id : Int) (w : World) (h : Mw m B S s w) (hid : 0 ≤ id) : Calls Try.prog 22 #[.pointer (some ⟨m, 0, none⟩), .int .u64 id] w fun e w' => e = .returned (.bool (s.is id)) ∧ w = w' := by
  obtain ⟨lb, cb, fb⟩ := h.ob.blk
  obtain ⟨a, c, rfl, _, _⟩ := h.rd.form
  have HR := Lib.hid h.rd
  have c1 := cb 1
  have c2 := cb 2
  clear cb h
  rcases (by omega : id = 0 ∨ (0 < id ∧ id < s.mark) ∨ (0 < id ∧ ¬ id < s.mark)) with h0 | ⟨h0, h1⟩ | ⟨h0, h1⟩
  · have e1 := Lib.hid (show s.is id = false by unfold Wd.is; simp [h0])
    have hd : decide (0 < id) = false := decide_eq_false (by omega)
    clear h0
    go_enter Try.func22, Try.ntmps22
    go_wp2_with fail
    go_ret
    exact ⟨by rw [e1.out]; rfl, rfl⟩
  · have e1 := Lib.hid (show s.is id = true by unfold Wd.is; simp [show id ≠ 0 by omega, h1])
    have hd : decide (0 < id) = true := decide_eq_true h0
    have hd2 : decide (id < s.mark) = true := decide_eq_true h1
    go_enter Try.func22, Try.ntmps22
    go_wp2_with fail
    go_ret
    exact ⟨by rw [e1.out]; rfl, rfl⟩
  · have e1 := Lib.hid (show s.is id = s.l.contains id by unfold Wd.is; simp [show id ≠ 0 by omega, h1])
    have hd : decide (0 < id) = true := decide_eq_true h0
    have hd2 : decide (id < s.mark) = false := decide_eq_false h1
    go_enter Try.func22, Try.ntmps22
    go_wp2_with fail
    refine (hasr_any s.l id _ _ HR.out).mono ?_
    rintro e w1 ⟨rfl, rfl⟩
    go_wp2_with fail
    go_ret
    exact ⟨by rw [e1.out]; simp, rfl⟩
/-- may one more end? -/
def Wd.room (s : Wd) (id : Int) : Bool := s.is id || (id == s.mark) || decide ((s.l.length : Int) < s.most)
theorem room_any (m B : Nat) (S : Value) (s : Wd) (id : Int) (w : World) (h : Mw m B S s w) (hid : 0 ≤ id) : Calls Try.prog 27 #[.pointer (some ⟨m, 0, none⟩), .int .u64 id] w fun e w' => e = .returned (.bool (s.room id)) ∧ ∃ q, w' = w.drewN q := by
  have HM := Lib.hid h
  obtain ⟨lb, cb, fb⟩ := h.ob.blk
  obtain ⟨a, c, hv, _, _⟩ := h.rd.form
  have c0 := cb 0
  have c1 := cb 1
  have c2 := cb 2
  rw [hv] at c0 c1 c2
  clear cb h hv
  cases h1 : s.is id
  · cases h2 : id == s.mark
    · have e1 := Lib.hid (show s.room id = decide ((s.l.length : Int) < s.most) by unfold Wd.room; rw [h1, h2]; rfl)
      go_enter Try.func27, Try.ntmps27
      go_wp2_with fail
      refine wp_region_quiet_lit (by kernel_rfl) (by kernel_rfl) ?_
      repeat (first | go_big_quiet_step (first | (go_at_call 22; exact quietS ((isr_any m B S s id _ (HM.out.keptF (Kept.dn _ _ _)) hid))) | (go_at_call 22; exact quietA ((isr_any m B S s id _ (HM.out.keptF (Kept.dn _ _ _)) hid)))) | quiet_step (first | (go_at_call 22; exact quietS ((isr_any m B S s id _ (HM.out.keptF (Kept.dn _ _ _)) hid))) | (go_at_call 22; exact quietA ((isr_any m B S s id _ (HM.out.keptF (Kept.dn _ _ _)) hid)))))
      refine wpQuiet_nil ?_
      intro W hW
      obtain ⟨q, rfl⟩ := hW
      go_wp2_with fail
      go_ret
      exact ⟨by rw [e1.out]; rfl, q, rfl⟩
    · have e1 := Lib.hid (show s.room id = true by unfold Wd.room; rw [h1, h2]; rfl)
      go_enter Try.func27, Try.ntmps27
      go_wp2_with fail
      refine wp_region_quiet_lit (by kernel_rfl) (by kernel_rfl) ?_
      repeat (first | go_big_quiet_step (first | (go_at_call 22; exact quietS ((isr_any m B S s id _ (HM.out.keptF (Kept.dn _ _ _)) hid))) | (go_at_call 22; exact quietA ((isr_any m B S s id _ (HM.out.keptF (Kept.dn _ _ _)) hid)))) | quiet_step (first | (go_at_call 22; exact quietS ((isr_any m B S s id _ (HM.out.keptF (Kept.dn _ _ _)) hid))) | (go_at_call 22; exact quietA ((isr_any m B S s id _ (HM.out.keptF (Kept.dn _ _ _)) hid)))))
      refine wpQuiet_nil ?_
      intro W hW
      obtain ⟨q, rfl⟩ := hW
      go_wp2_with fail
      go_ret
      exact ⟨by rw [e1.out]; rfl, q, rfl⟩
  · have e1 := Lib.hid (show s.room id = true by unfold Wd.room; rw [h1]; rfl)
    go_enter Try.func27, Try.ntmps27
    go_wp2_with fail
    refine wp_region_quiet_lit (by kernel_rfl) (by kernel_rfl) ?_
    repeat (first | go_big_quiet_step (first | (go_at_call 22; exact quietS ((isr_any m B S s id _ (HM.out.keptF (Kept.dn _ _ _)) hid))) | (go_at_call 22; exact quietA ((isr_any m B S s id _ (HM.out.keptF (Kept.dn _ _ _)) hid)))) | quiet_step (first | (go_at_call 22; exact quietS ((isr_any m B S s id _ (HM.out.keptF (Kept.dn _ _ _)) hid))) | (go_at_call 22; exact quietA ((isr_any m B S s id _ (HM.out.keptF (Kept.dn _ _ _)) hid)))))
    refine wpQuiet_nil ?_
    intro W hW
    obtain ⟨q, rfl⟩ := hW
    go_wp2_with fail
    go_ret
    exact ⟨by rw [e1.out]; rfl, q, rfl⟩
theorem rd_next {w : World} {b o c : Nat} {x : Int} {r : List Int} (h : Rd w 1 (.slice (some ⟨b, o, none⟩) (r.length + 1) c) (r.length + 1) ((x :: r).map (Value.int .u64))) :
    Rd w 1 (.slice (slAddr (some ⟨b, o, none⟩) c 1 1) r.length (c - 1)) r.length (r.map (Value.int .u64)) := by
  have h1 := h.sub 1 (r.length + 1) (by omega) (Nat.le_refl _)
  have e : (((x :: r).map (Value.int .u64)).drop (1 * 1)).take (r.length * 1) = r.map (Value.int .u64) := by
    rw [List.map_cons, Nat.mul_one, Nat.mul_one]
    show (r.map (Value.int .u64)).take r.length = _
    exact List.take_of_length_le (by rw [List.length_map]; exact Nat.le_refl _)
  rw [Nat.add_sub_cancel, e] at h1
  exact h1
theorem Mw.step {m B b o c : Nat} {most mk mk' x : Int} {r : List Int} {a : Option Addr} {w w1 : World} (h : Mw m B (.slice (some ⟨b, o, none⟩) (r.length + 1) c) ⟨most, mk, x :: r⟩ w) (ha : slAddr (some ⟨b, o, none⟩) c 1 1 = a) (hob : Ob w1 m #[.int .i64 most, .int .u64 mk', .slice a r.length (c - 1)] TM)
    (hk : Kept (Only m) w w1) : Mw m B (.slice a r.length (c - 1)) ⟨most, mk', r⟩ w1 ∧ ∀ y, (Value.slice a r.length (c - 1)).ownBlock = some y → y = b := by
  subst ha
  have hbb : ∀ y, (Value.slice (slAddr (some ⟨b, o, none⟩) c 1 1) r.length (c - 1)).ownBlock = some y → y = b := by
    intro y hy
    unfold slAddr at hy
    split at hy
    · injection hy with hy; exact hy.symm
    · rw [Option.map_some, addr_add] at hy
      injection hy with hy; exact hy.symm
  refine ⟨⟨hob, ?_, fun y hy => ?_, h.mB, fun a l c' he => ?_⟩, hbb⟩
  · refine (rd_next h.rd).kept hk fun a l c he hh => ?_
    have h1 := hbb a.block (by rw [he]; rfl)
    exact (h.ap b rfl).1 (h1 ▸ hh)
  · rw [hbb y hy]
    exact ⟨(h.ap b rfl).1, (h.ap b rfl).2.1, Nat.lt_of_lt_of_le (h.ap b rfl).2.2 hk.size⟩
  · injection he with he _ _
    unfold slAddr at he
    split at he
    · injection he with he; exact ⟨_, _, he.symm⟩
    · rw [Option.map_some, addr_add] at he
      injection he with he; exact ⟨_, _, he.symm⟩
set_option maxHeartbeats 4000000 in
theorem goesr_any (m B : Nat) (S : Value) (s : Wd) (w : World) (h : Mw m B S s w) (hm : 0 ≤ s.mark ∧ s.mark ≤ 1152921504606846977) (hx : ∀ x ∈ s.l, 0 ≤ x ∧ x ≤ 1152921504606846976) (hl : s.l.length ≤ 1000000) :
    Calls Try.prog 28 #[.pointer (some ⟨m, 0, none⟩)] w fun e w' => e = .returned (.int .i64 (gn s.mark s.l)) ∧ MwPost m B S ⟨s.most, gm s.mark s.l, s.l.drop (gn s.mark s.l)⟩ w w' := by
  have HM := Lib.hid h
  have HX := Lib.hid hx
  clear h hx
  go_enter Try.func28, Try.ntmps28
  go_wp2_with fail
  go_loopw [3] (fun i wr => ∃ (j : Nat) (mk : Int) (r : List Int) (S' : Value), i = .int .i64 j ∧ s.l.drop j = r ∧ j + r.length = s.l.length ∧ Mw m B S' ⟨s.most, mk, r⟩ wr ∧ Kept (Only m) w wr ∧ (∀ x, S'.ownBlock = some x → S.ownBlock = some x) ∧ gm mk r = gm s.mark s.l ∧ gn mk r + j = gn s.mark s.l ∧ 0 ≤ mk ∧ mk ≤ 1152921504606846977) (fun i _ => s.l.length - (intOf i).toNat)
  case atStart => exact ⟨0, s.mark, s.l, S, rfl, rfl, by omega, HM.out, Kept.refl _ _, fun _ h => h, rfl, rfl, hm.1, hm.2⟩
  case round =>
    obtain ⟨j, mk, r, S', rfl, hr, hjr, hw, hkp, hob, e1, e2, m0, m1⟩ := hrel
    have HR := Lib.hid hr
    have HW := Lib.hid hw
    have HK := Lib.hid hkp
    have HB := Lib.hid hob
    have E1 := Lib.hid e1
    have E2 := Lib.hid e2
    obtain ⟨a, c, rfl, _, _⟩ := hw.rd.form
    obtain ⟨lb, cb, fb⟩ := hw.ob.blk
    have c1 := cb 1
    have c2 := cb 2
    clear cb hr hw hkp hob e1 e2
    cases r with
    | nil =>
      have HG := Lib.hid (gm_stop (m := mk) (l := []) (fun x hx => by cases hx))
      go_wp2_with fail
      refine wp_region_quiet_lit (by kernel_rfl) (by kernel_rfl) ?_
      repeat (first | go_big_quiet_step (fail) | quiet_step (fail))
      refine wpQuiet_nil ?_
      intro W hW
      have hkW : Kept (fun _ => False) wr W := by obtain ⟨n9, rfl⟩ := hW; exact Kept.dn _ _ _
      go_wp2_with fail
      go_ret
      refine ⟨?_, _, ?_, HK.out.trans (hkW.mono fun _ _ h => h.elim), fun x hx => .inl (HB.out x hx)⟩
      · have := E2.out; rw [HG.out.2] at this
        rw [← this, Nat.zero_add]; rfl
      · have h3 := HW.out.keptF hkW
        rw [← E1.out, HG.out.1, ← E2.out, HG.out.2, Nat.zero_add, HR.out]
        exact h3
    | cons x r =>
      rw [List.length_cons] at hjr
      obtain ⟨b, o, rfl, c3⟩ := HW.out.rd.at 0 (by simp)
      have c3 : wr.cell? ⟨b, o, none⟩ = some (.int .u64 x) := c3
      have hbl : b < wr.heap.size := (HW.out.ap b rfl).2.2
      have hxj := HX.out x (List.mem_of_mem_drop (by rw [HR.out]; exact List.mem_cons_self ..))
      have c1 : wr.cell? ⟨m, 1, none⟩ = some (.int .u64 mk) := c1
      have c2 : wr.cell? ⟨m, 2, none⟩ = some (.slice (some ⟨b, o, none⟩) (r.length + 1) c) := c2
      have hrc : r.length + 1 ≤ c := by assumption
      have hcm : c ≤ 9223372036854775807 := by assumption
      by_cases hxm : x ≤ mk
      · have hst := gm_step (m := mk) (x := x) (r := r) hxm
        have HS := Lib.hid hst
        clear hst
        rcases (by omega : x = mk ∨ x < mk) with hxe | hxe
        · first | (have hxb : (x == mk) = true := beq_iff_eq.2 hxe) | (have hxb : (x == mk) = false := beq_eq_false_iff_ne.2 (by omega))
          first | (have HMX : Hid (max mk (x + 1) = mk + 1) := Lib.hid (by omega)) | (have HMX : Hid (max mk (x + 1) = mk) := Lib.hid (by omega))
          have HXE := Lib.hid hxe
          have hdm : decide (x ≤ mk) = true := decide_eq_true hxm
          clear hxe hxm
          go_wp2_with fail
          refine wp_region_quiet_lit (by kernel_rfl) (by kernel_rfl) ?_
          repeat (first | go_big_quiet_step (fail) | quiet_step (fail))
          refine wpQuiet_nil ?_
          intro W hW
          have hkW : Kept (fun _ => False) wr W := by obtain ⟨n9, rfl⟩ := hW; exact Kept.dn _ _ _
          have HW1 := Lib.hid (HW.out.keptF hkW)
          have HK1 := Lib.hid (HK.out.trans (hkW.mono fun _ _ h => h.elim))
          have c3 := (hkW.cell b o hbl id).trans c3
          have hbl := Nat.lt_of_lt_of_le hbl hkW.size
          have lb1 := HW1.out.ob.blk
          clear hkW hW c1 c2 lb fb
          obtain ⟨lb, cb, fb⟩ := lb1
          have c1 : W.cell? ⟨m, 1, none⟩ = some (.int .u64 mk) := cb 1
          have c2 : W.cell? ⟨m, 2, none⟩ = some (.slice (some ⟨b, o, none⟩) (r.length + 1) c) := cb 2
          clear cb
          go_wp2_with fail
          refine wp_region_quiet_lit (by kernel_rfl) (by kernel_rfl) ?_
          repeat (first | go_big_quiet_step (fail) | quiet_step (fail))
          refine wpQuiet_nil ?_
          intro W2 hW2
          have hkW : Kept (fun _ => False) W W2 := by obtain ⟨n9, rfl⟩ := hW2; exact Kept.dn _ _ _
          have HW2 := Lib.hid (HW1.out.keptF hkW)
          have HK2 := Lib.hid (HK1.out.trans (hkW.mono fun _ _ h => h.elim))
          have lb2 := HW2.out.ob.blk
          clear hkW hW2 c1 c2 c3 lb fb hbl
          obtain ⟨lb, cb, fb⟩ := lb2
          have c1 : W2.cell? ⟨m, 1, none⟩ = some (.int .u64 mk) := cb 1
          have c2 : W2.cell? ⟨m, 2, none⟩ = some (.slice (some ⟨b, o, none⟩) (r.length + 1) c) := cb 2
          clear cb
          rcases (by omega : c = 1 ∨ 1 < c) with hcc | hcc
          · subst hcc
            obtain rfl : r = [] := List.eq_nil_of_length_eq_zero (by omega)
            have ob1 := Ob.cast (HW2.out.ob.set 1 (.int .u64 (mk + 1))) (show _ = #[.int .i64 s.most, .int .u64 (mk + 1), (.slice (some ⟨b, o, none⟩) 1 1)] from rfl)
            have c4 : (W2.setCell ⟨m, 1, none⟩ (.int .u64 (mk + 1))).cell? ⟨m, 2, none⟩ = some (.slice (some ⟨b, o, none⟩) 1 1) := ob1.blk.2.1 2
            have ob2 := Ob.cast (ob1.set 2 (.slice (some ⟨b, o, none⟩) 0 0)) (show _ = #[.int .i64 s.most, .int .u64 (mk + 1), .slice (some ⟨b, o, none⟩) 0 0] from rfl)
            have hk2 := ((Kept.refl (Only m) W2).setO (i := 1) (v := .int .u64 (mk + 1))).setO (i := 2) (v := .slice (some ⟨b, o, none⟩) 0 0)
            have hstep := Lib.hid (Mw.step (mk' := (mk + 1)) HW2.out rfl ob2 hk2)
            have HKF := Lib.hid (HK2.out.trans hk2)
            clear ob2 hk2 ob1
            go_wp2_with fail
            go_roundw
            case rel => exact ⟨j + 1, (mk + 1), ([] : List Int), .slice (some ⟨b, o, none⟩) 0 0, by go_num, by have := congrArg (List.drop 1) HR.out; rw [List.drop_drop] at this; exact this, by first | omega | (simp at hjr ⊢; omega), hstep.out.1, HKF.out, fun y hy => HB.out y (by rw [hstep.out.2 y hy]; rfl), by rw [← HMX.out]; exact HS.out.1.symm.trans E1.out, by have h7 := E2.out; rw [HS.out.2, HMX.out] at h7; omega, by omega, by have := HXE.out; omega⟩
            case measure => simp [intOf] <;> (try simp at hjr) <;> omega
          · have hcn : c ≠ 1 := by omega
            have ob1 := Ob.cast (HW2.out.ob.set 1 (.int .u64 (mk + 1))) (show _ = #[.int .i64 s.most, .int .u64 (mk + 1), (.slice (some ⟨b, o, none⟩) (r.length + 1) c)] from rfl)
            have c4 : (W2.setCell ⟨m, 1, none⟩ (.int .u64 (mk + 1))).cell? ⟨m, 2, none⟩ = some (.slice (some ⟨b, o, none⟩) (r.length + 1) c) := ob1.blk.2.1 2
            have ob2 := Ob.cast (ob1.set 2 (.slice (some ⟨b, o + 1, none⟩) r.length (c - 1))) (show _ = #[.int .i64 s.most, .int .u64 (mk + 1), .slice (some ⟨b, o + 1, none⟩) r.length (c - 1)] from rfl)
            have hk2 := ((Kept.refl (Only m) W2).setO (i := 1) (v := .int .u64 (mk + 1))).setO (i := 2) (v := .slice (some ⟨b, o + 1, none⟩) r.length (c - 1))
            have hstep := Lib.hid (Mw.step (mk' := (mk + 1)) HW2.out (by simp [slAddr, hcn, addr_add]) ob2 hk2)
            have HKF := Lib.hid (HK2.out.trans hk2)
            clear ob2 hk2 ob1
            go_wp2_with fail
            go_roundw
            case rel => exact ⟨j + 1, (mk + 1), r, .slice (some ⟨b, o + 1, none⟩) r.length (c - 1), by go_num, by have := congrArg (List.drop 1) HR.out; rw [List.drop_drop] at this; exact this, by first | omega | (simp at hjr ⊢; omega), hstep.out.1, HKF.out, fun y hy => HB.out y (by rw [hstep.out.2 y hy]; rfl), by rw [← HMX.out]; exact HS.out.1.symm.trans E1.out, by have h7 := E2.out; rw [HS.out.2, HMX.out] at h7; omega, by omega, by have := HXE.out; omega⟩
            case measure => simp [intOf] <;> (try simp at hjr) <;> omega
        · first | (have hxb : (x == mk) = true := beq_iff_eq.2 hxe) | (have hxb : (x == mk) = false := beq_eq_false_iff_ne.2 (by omega))
          first | (have HMX : Hid (max mk (x + 1) = mk + 1) := Lib.hid (by omega)) | (have HMX : Hid (max mk (x + 1) = mk) := Lib.hid (by omega))
          have HXE := Lib.hid hxe
          have hdm : decide (x ≤ mk) = true := decide_eq_true hxm
          clear hxe hxm
          go_wp2_with fail
          refine wp_region_quiet_lit (by kernel_rfl) (by kernel_rfl) ?_
          repeat (first | go_big_quiet_step (fail) | quiet_step (fail))
          refine wpQuiet_nil ?_
          intro W hW
          have hkW : Kept (fun _ => False) wr W := by obtain ⟨n9, rfl⟩ := hW; exact Kept.dn _ _ _
          have HW1 := Lib.hid (HW.out.keptF hkW)
          have HK1 := Lib.hid (HK.out.trans (hkW.mono fun _ _ h => h.elim))
          have c3 := (hkW.cell b o hbl id).trans c3
          have hbl := Nat.lt_of_lt_of_le hbl hkW.size
          have lb1 := HW1.out.ob.blk
          clear hkW hW c1 c2 lb fb
          obtain ⟨lb, cb, fb⟩ := lb1
          have c1 : W.cell? ⟨m, 1, none⟩ = some (.int .u64 mk) := cb 1
          have c2 : W.cell? ⟨m, 2, none⟩ = some (.slice (some ⟨b, o, none⟩) (r.length + 1) c) := cb 2
          clear cb
          go_wp2_with fail
          refine wp_region_quiet_lit (by kernel_rfl) (by kernel_rfl) ?_
          repeat (first | go_big_quiet_step (fail) | quiet_step (fail))
          refine wpQuiet_nil ?_
          intro W2 hW2
          have hkW : Kept (fun _ => False) W W2 := by obtain ⟨n9, rfl⟩ := hW2; exact Kept.dn _ _ _
          have HW2 := Lib.hid (HW1.out.keptF hkW)
          have HK2 := Lib.hid (HK1.out.trans (hkW.mono fun _ _ h => h.elim))
          have lb2 := HW2.out.ob.blk
          clear hkW hW2 c1 c2 c3 lb fb hbl
          obtain ⟨lb, cb, fb⟩ := lb2
          have c1 : W2.cell? ⟨m, 1, none⟩ = some (.int .u64 mk) := cb 1
          have c2 : W2.cell? ⟨m, 2, none⟩ = some (.slice (some ⟨b, o, none⟩) (r.length + 1) c) := cb 2
          clear cb
          rcases (by omega : c = 1 ∨ 1 < c) with hcc | hcc
          · subst hcc
            obtain rfl : r = [] := List.eq_nil_of_length_eq_zero (by omega)
            have ob2 := Ob.cast (HW2.out.ob.set 2 (.slice (some ⟨b, o, none⟩) 0 0)) (show _ = #[.int .i64 s.most, .int .u64 mk, .slice (some ⟨b, o, none⟩) 0 0] from rfl)
            have hk2 := (Kept.refl (Only m) W2).setO (i := 2) (v := .slice (some ⟨b, o, none⟩) 0 0)
            have hstep := Lib.hid (Mw.step (mk' := mk) HW2.out rfl ob2 hk2)
            have HKF := Lib.hid (HK2.out.trans hk2)
            clear ob2 hk2
            go_wp2_with fail
            go_roundw
            case rel => exact ⟨j + 1, mk, ([] : List Int), .slice (some ⟨b, o, none⟩) 0 0, by go_num, by have := congrArg (List.drop 1) HR.out; rw [List.drop_drop] at this; exact this, by first | omega | (simp at hjr ⊢; omega), hstep.out.1, HKF.out, fun y hy => HB.out y (by rw [hstep.out.2 y hy]; rfl), by rw [← HMX.out]; exact HS.out.1.symm.trans E1.out, by have h7 := E2.out; rw [HS.out.2, HMX.out] at h7; omega, by omega, by have := HXE.out; omega⟩
            case measure => simp [intOf] <;> (try simp at hjr) <;> omega
          · have hcn : c ≠ 1 := by omega
            have ob2 := Ob.cast (HW2.out.ob.set 2 (.slice (some ⟨b, o + 1, none⟩) r.length (c - 1))) (show _ = #[.int .i64 s.most, .int .u64 mk, .slice (some ⟨b, o + 1, none⟩) r.length (c - 1)] from rfl)
            have hk2 := (Kept.refl (Only m) W2).setO (i := 2) (v := .slice (some ⟨b, o + 1, none⟩) r.length (c - 1))
            have hstep := Lib.hid (Mw.step (mk' := mk) HW2.out (by simp [slAddr, hcn, addr_add]) ob2 hk2)
            have HKF := Lib.hid (HK2.out.trans hk2)
            clear ob2 hk2
            go_wp2_with fail
            go_roundw
            case rel => exact ⟨j + 1, mk, r, .slice (some ⟨b, o + 1, none⟩) r.length (c - 1), by go_num, by have := congrArg (List.drop 1) HR.out; rw [List.drop_drop] at this; exact this, by first | omega | (simp at hjr ⊢; omega), hstep.out.1, HKF.out, fun y hy => HB.out y (by rw [hstep.out.2 y hy]; rfl), by rw [← HMX.out]; exact HS.out.1.symm.trans E1.out, by have h7 := E2.out; rw [HS.out.2, HMX.out] at h7; omega, by omega, by have := HXE.out; omega⟩
            case measure => simp [intOf] <;> (try simp at hjr) <;> omega
      · have hxd : decide (x ≤ mk) = false := decide_eq_false hxm
        have HG := Lib.hid (gm_stop (m := mk) (l := x :: r) (fun y hy => by cases hy; omega))
        go_wp2_with fail
        refine wp_region_quiet_lit (by kernel_rfl) (by kernel_rfl) ?_
        repeat (first | go_big_quiet_step (fail) | quiet_step (fail))
        refine wpQuiet_nil ?_
        intro W hW
        have hkW : Kept (fun _ => False) wr W := by obtain ⟨n9, rfl⟩ := hW; exact Kept.dn _ _ _
        go_wp2_with fail
        go_ret
        refine ⟨?_, _, ?_, HK.out.trans (hkW.mono fun _ _ h => h.elim), fun x hx => .inl (HB.out x hx)⟩
        · have := E2.out; rw [HG.out.2] at this
          rw [← this, Nat.zero_add]; rfl
        · have h3 := HW.out.keptF hkW
          rw [← E1.out, HG.out.1, ← E2.out, HG.out.2, Nat.zero_add, HR.out]
          exact h3
theorem MwPost.then {m B : Nat} {S : Value} {s' : Wd} {w w1 w2 : World} (h : MwPost m B S s' w1 w2) (hk : Kept (Only m) w w1) : MwPost m B S s' w w2 := by
  obtain ⟨S', h1, h2, h3⟩ := h
  exact ⟨S', h1, hk.trans h2, fun x hx => (h3 x hx).imp id fun h => Nat.le_trans hk.size h⟩
theorem MwPost.same {m B : Nat} {S : Value} {s : Wd} {w w' : World} (h : Mw m B S s w) (hk : Kept (fun _ => False) w w') : MwPost m B S s w w' := ⟨S, h.keptF hk, hk.mono fun _ _ h => h.elim, fun _ h => .inl h⟩
set_option maxHeartbeats 1000000 in
theorem retirer_any (m B : Nat) (S : Value) (s : Wd) (id : Int) (w : World) (h : Mw m B S s w) (ho : s.ok) (hid : 0 ≤ id) : Calls Try.prog 21 #[.pointer (some ⟨m, 0, none⟩), .int .u64 id] w fun e w' => e = .returned (.int .i64 (s.went (min id 1152921504606846977))) ∧ MwPost m B S (s.goes (min id 1152921504606846977)) w w' := by
  have HM := Lib.hid h
  have hm0 := ho.m0
  have hm1 := ho.m1
  have HX : Hid (∀ x ∈ s.l, 0 ≤ x ∧ x ≤ 1152921504606846976) := Lib.hid (fun x hx => by have := ho.hi x hx; omega)
  have hl : s.l.length ≤ 1000000 := by have := ho.ln; have := ho.a1; omega
  obtain ⟨lb, cb, fb⟩ := h.ob.blk
  have c1 : w.cell? ⟨m, 1, none⟩ = some (.int .u64 s.mark) := cb 1
  clear cb h ho
  by_cases hc : s.mark < id
  · have hd : decide (s.mark < id) = true := decide_eq_true hc
    have HW : Hid (max s.mark (min id 1152921504606846977) = min id 1152921504606846977) := Lib.hid (by omega)
    have ob1 := Ob.cast (HM.out.ob.set 1 (.int .u64 (min id 1152921504606846977))) (show _ = #[.int .i64 s.most, .int .u64 (min id 1152921504606846977), S] from rfl)
    have hk1 := (Kept.refl (Only m) w).setO (i := 1) (v := .int .u64 (min id 1152921504606846977))
    have hb := HM.out.ap
    have HM1 : Hid (Mw m B S ⟨s.most, min id 1152921504606846977, s.l⟩ (w.setCell ⟨m, 1, none⟩ (.int .u64 (min id 1152921504606846977)))) := Lib.hid ⟨ob1, HM.out.rd.kept hk1 (fun a l c he hh => (hb a.block (by rw [he]; rfl)).1 hh), fun x hx => ⟨(hb x hx).1, (hb x hx).2.1, Nat.lt_of_lt_of_le (hb x hx).2.2 hk1.size⟩, HM.out.mB, HM.out.fm⟩
    have HK1 := Lib.hid hk1
    clear ob1 hk1 hb
    go_enter Try.func21, Try.ntmps21
    go_wp2_with fail
    refine (goesr_any m B S _ _ HM1.out ⟨by show 0 ≤ min id 1152921504606846977; omega, by show min id 1152921504606846977 ≤ _; omega⟩ HX.out hl).mono ?_
    rintro e w1 ⟨rfl, hp⟩
    have HP := Lib.hid (hp.then HK1.out)
    clear hp
    go_wp2_with fail
    go_ret
    refine ⟨?_, ?_⟩
    · unfold Wd.went; rw [HW.out]; rfl
    · unfold Wd.goes; rw [HW.out]; exact HP.out
  · have hd : decide (s.mark < id) = false := decide_eq_false hc
    have HW : Hid (max s.mark (min id 1152921504606846977) = s.mark) := Lib.hid (by omega)
    go_enter Try.func21, Try.ntmps21
    go_wp2_with fail
    refine (goesr_any m B S s _ HM.out ⟨by omega, hm1⟩ HX.out hl).mono ?_
    rintro e w1 ⟨rfl, hp⟩
    have HP := Lib.hid hp
    clear hp
    go_wp2_with fail
    go_ret
    refine ⟨?_, ?_⟩
    · unfold Wd.went; rw [HW.out]; rfl
    · unfold Wd.goes; rw [HW.out]; exact HP.out
theorem countP_at {l : List Int} {id : Int} {k : Nat} (hk : k ≤ l.length) (h1 : ∀ x ∈ l.take k, x < id) (h2 : ∀ x ∈ l.drop k, id < x) : l.countP (· < id) = k := by
  rw [← List.take_append_drop k l, List.countP_append]
  have e1 : (l.take k).countP (· < id) = k := by
    rw [List.countP_eq_length.2 (fun x hx => by simpa using h1 x hx), List.length_take, Nat.min_eq_left hk]
  have e2 : (l.drop k).countP (· < id) = 0 := by
    rw [List.countP_eq_zero]
    intro x hx
    have := h2 x hx
    simp; omega
  rw [e1, e2, Nat.add_zero]
theorem rd_tok {w : World} {l : List Int} {a : Option Addr} {c : Nat} (h : Rd w 1 (.slice a l.length c) l.length (l.map (Value.int .u64))) (k : Nat) (hk : k ≤ l.length) : Rd w 1 (.slice a k c) k ((l.take k).map (Value.int .u64)) := by
  rcases h with ⟨h1, h2, h3⟩ | ⟨b, cap, h1, h2, h3, h4, h5⟩
  · obtain rfl : k = 0 := by omega
    injection h1 with h6 h7 h8
    subst h6 h8
    exact .inl ⟨rfl, rfl, rfl⟩
  · injection h1 with h6 _ h8
    subst h6 h8
    refine .inr ⟨b, c, rfl, Nat.le_trans hk h2, h3, by simp; omega, fun j u hj => h5 j u ?_⟩
    rw [List.map_take, List.getElem?_take] at hj
    split at hj
    · exact hj
    · cases hj
end Go.Proofs.Ytcdllhbifdgfaaa
