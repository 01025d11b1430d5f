/- Contracts of queue (chapter 12). -/
import Derived.Test.YtoihhidoafgoaaaPoSl
import Derived.Test.YtoihhidoafgoaaaPoA
import Derived.Test.YtoihhidoafgoaaaNum
import Derived.Test.YtoihhidoafgoaaaTail
namespace Go.Proofs.Ytoihhidoafgoaaa
open Go.RowKit

def It.bytes (x : It) : Int := if x.kind = 1 then 26 + x.len else 26
def It.sz (x : It) : Int := clampI x.bytes 0 1073741824
def It.thr (x : It) : List Value := [.int .i64 x.kind, .int .i64 x.src, .int .i64 x.dst, .int .i64 x.prio, .int .u64 x.msg, .int .i64 x.off, .int .i64 x.len, .int .i64 x.total, .int .i64 x.num, .slice x.da x.dn x.dc, .int .i64 x.path, .int .i64 x.sz]
theorem rowThr (x : It) : x.thr.length = 12 := rfl
theorem szIt (x : It) : 0 ≤ x.sz ∧ x.sz ≤ 1073741824 := by
  unfold It.sz clampI
  split
  · omega
  · split <;> omega
def qcells (room u : Int) (V : Nat → Value) : Array Value := #[.int .i64 room, .int .i64 u, V 0, V 1, V 2, V 3, V 4, V 5, V 6, V 7]
def upd {α : Type} (f : Nat → α) (p : Nat) (x : α) : Nat → α := fun i => if i = p then x else f i
theorem upd_same {α : Type} (f : Nat → α) (p : Nat) (x : α) : upd f p x p = x := if_pos rfl
theorem upd_other {α : Type} (f : Nat → α) {p i : Nat} (x : α) (h : i ≠ p) : upd f p x i = f i := if_neg h
theorem eight {p : Nat} (h : p < 8) : p = 0 ∨ p = 1 ∨ p = 2 ∨ p = 3 ∨ p = 4 ∨ p = 5 ∨ p = 6 ∨ p = 7 := by omega
theorem q_get (room u : Int) (V : Nat → Value) (p : Nat) (h : p < 8) : (qcells room u V)[2 + p]? = some (V p) := by
  rcases eight h with rfl | rfl | rfl | rfl | rfl | rfl | rfl | rfl <;> rfl
theorem q_set (room u : Int) (V : Nat → Value) (p : Nat) (h : p < 8) (x : Value) : (qcells room u V).setIfInBounds (2 + p) x = qcells room u (upd V p x) := by
  rcases eight h with rfl | rfl | rfl | rfl | rfl | rfl | rfl | rfl <;> rfl
def total (L : Nat → List It) : Int := (((List.range 8).flatMap L).map It.sz).foldl (· + ·) 0
/-- a queue at block b: its lines at V, which hold L -/
structure Qu (b B0 : Nat) (V : Nat → Value) (room u : Int) (L : Nat → List It) (w : World) : Prop where
  ob : Ob w b (qcells room u V) 138
  own : ∀ i, i < 8 → w.ownsRow B0 142 12 (V i) (L i).length ((L i).flatMap It.thr)
  apart : ∀ i j g, i < 8 → j < 8 → (V i).ownBlock = some g → (V j).ownBlock = some g → i = j
  off : ∀ i, i < 8 → (V i).ownBlock ≠ some b
  base : B0 ≤ b
/-- the blocks that are the queue's -/
def QM (b : Nat) (V : Nat → Value) : Nat → Prop := fun x => x = b ∨ ∃ i, i < 8 ∧ (V i).ownBlock = some x
theorem Qu.kept {b B0 : Nat} {V : Nat → Value} {room u : Int} {L : Nat → List It} {w w' : World} {M : Nat → Prop} (h : Qu b B0 V room u L w) (hk : Kept M w w') (hM : ∀ x, QM b V x → ¬ M x) : Qu b B0 V room u L w' := by
  refine ⟨h.ob.kept hk (hM b (.inl rfl)), fun i hi => ?_, h.apart, h.off, h.base⟩
  have := h.own i hi
  refine ⟨this.1, ?_⟩
  rcases this.2 with h2 | ⟨g, cap, cur, hv, hg, hh, r⟩
  · exact .inl h2
  · exact .inr ⟨g, cap, cur, hv, hg, hk.heap hh (hM g (.inr ⟨i, hi, by rw [hv]; rfl⟩)), r⟩
theorem Qu.below {b B0 : Nat} {V : Nat → Value} {room u : Int} {L : Nat → List It} {w w' : World} (h : Qu b B0 V room u L w) (hk : Below w.heap.size w w') : Qu b B0 V room u L w' :=
  h.kept (Kept.of_below (M := fun _ => False) hk) fun _ _ hh => hh

theorem Qu.used {b B0 : Nat} {V : Nat → Value} {room u : Int} {L : Nat → List It} {w : World} (h : Qu b B0 V room u L w) (u' : Int) : Qu b B0 V room u' L (w.setCell ⟨b, 1, none⟩ (.int .i64 u')) := by
  refine ⟨h.ob.set 1 _, fun i hi => ?_, h.apart, h.off, h.base⟩
  have := h.own i hi
  refine ⟨this.1, ?_⟩
  rcases this.2 with h2 | ⟨g, cap, cur, hv, hg, hh, r⟩
  · exact .inl h2
  · refine .inr ⟨g, cap, cur, hv, hg, ?_, r⟩
    rw [Go.Deep.blk_setCell_other _ _ _ _ (fun he => h.off i hi (by rw [hv]; exact congrArg some he))]
    exact hh
theorem Qu.dn {b B0 n : Nat} {V : Nat → Value} {room u : Int} {L : Nat → List It} {w : World} (h : Qu b B0 V room u L w) : Qu b B0 V room u L (w.drewN n) := h.kept (Kept.dn (fun _ => False) w n) fun _ _ hh => hh
theorem Qu.drew {b B0 : Nat} {V : Nat → Value} {room u : Int} {L : Nat → List It} {w : World} (h : Qu b B0 V room u L w) : Qu b B0 V room u L w.drew := h.kept (Kept.drew (fun _ => False) w) fun _ _ hh => hh
theorem Qu.alloc {b B0 : Nat} {V : Nat → Value} {room u : Int} {L : Nat → List It} {w : World} (h : Qu b B0 V room u L w) (o : Obj) : Qu b B0 V room u L (w.alloc o) := h.kept ((Kept.refl (fun _ => False) w).alloc o) fun _ _ hh => hh
/-- the blocks of one line -/
def Lm (v : Value) : Nat → Prop := fun x => v.ownBlock = some x
/-- one line is another one -/
theorem Qu.line {b B0 : Nat} {V : Nat → Value} {room u : Int} {L : Nat → List It} {w w' : World} (h : Qu b B0 V room u L w) {p : Nat} (hp : p < 8) {v' : Value} {l' : List It} (hk : Kept (Lm (V p)) w w')
    (hown : w'.ownsRow B0 142 12 v' l'.length (l'.flatMap It.thr)) (hb : v'.ownBlock = (V p).ownBlock ∨ ∀ x, v'.ownBlock = some x → w.heap.size ≤ x) : Qu b B0 (upd V p v') room u (upd L p l') (w'.setCell ⟨b, 2 + p, none⟩ v') := by
  have hbl := h.ob.lt
  have hvb : v'.ownBlock ≠ some b := by
    rcases hb with hb | hb
    · rw [hb]; exact h.off p hp
    · intro he; have := hb b he; omega
  refine ⟨?_, fun i hi => ?_, fun i j g hi hj h1 h2 => ?_, fun i hi => ?_, h.base⟩
  · rw [← q_set room u V p hp v']
    exact (h.ob.kept hk (h.off p hp)).set _ _
  · by_cases hip : i = p
    · subst hip
      rw [upd_same, upd_same]
      exact ownsRow_setCell_other hown (a := ⟨b, 2 + i, none⟩) hvb _
    · rw [upd_other _ _ hip, upd_other _ _ hip]
      refine ownsRow_setCell_other (own_kept (h.own i hi) hk fun x hx hh => hip (h.apart i p x hi hp hx hh)) (a := ⟨b, 2 + p, none⟩) (h.off i hi) _
  · have key : ∀ i, i < 8 → i ≠ p → (V i).ownBlock = some g → v'.ownBlock = some g → False := by
      intro i hi hip h1 h2
      rcases hb with hb | hb
      · rw [hb] at h2; exact hip (h.apart i p g hi hp h1 h2)
      · have h3 := hb g h2
        have h4 := ((h.own i hi).lt g h1).2
        omega
    by_cases hip : i = p
    · by_cases hjp : j = p
      · omega
      · subst hip
        rw [upd_same] at h1
        rw [upd_other _ _ hjp] at h2
        exact (key j hj hjp h2 h1).elim
    · by_cases hjp : j = p
      · subst hjp
        rw [upd_same] at h2
        rw [upd_other _ _ hip] at h1
        exact (key i hi hip h1 h2).elim
      · rw [upd_other _ _ hip] at h1
        rw [upd_other _ _ hjp] at h2
        exact h.apart i j g hi hj h1 h2
  · by_cases hip : i = p
    · subst hip; rw [upd_same]; exact hvb
    · rw [upd_other _ _ hip]; exact h.off i hi
def Fresh (w : World) (V V' : Nat → Value) : Prop := ∀ i, i < 8 → (V' i).ownBlock = (V i).ownBlock ∨ ∀ x, (V' i).ownBlock = some x → w.heap.size ≤ x
def PushPost (b B0 : Nat) (V : Nat → Value) (room u : Int) (L : Nat → List It) (p : Nat) (x : It) (w : World) (e : Ending) (w' : World) : Prop :=
  e = .returned (.int .i64 0) ∧ ∃ V', Qu b B0 V' room (u + x.sz) (upd L p (L p ++ [x])) w' ∧ Kept (QM b V) w w' ∧ Fresh w V V'
set_option maxRecDepth 100000 in
theorem wsize (x : It) (w : World) (hl : -1000000000 ≤ x.len ∧ x.len ≤ 1073741824) : Calls Try.prog 107 #[x.frv] w fun e w' => e = .returned (.int .i64 x.bytes) ∧ Below w.heap.size w w' := by
  obtain ⟨h1, h2⟩ := hl
  unfold It.frv
  by_cases hk : x.kind = 1
  · have HK := Lib.hid (show x.bytes = 26 + x.len by unfold It.bytes; rw [if_pos hk])
    have hb : (x.kind == 1) = true := beq_iff_eq.2 hk
    clear hk
    go_enter Try.func107, Try.ntmps107
    go_wp2_with fail
    go_ret
    exact ⟨by rw [HK.out]; rfl, (Below.refl _ _).alloc (Nat.le_refl _) _⟩
  · have HK := Lib.hid (show x.bytes = 26 by unfold It.bytes; rw [if_neg hk])
    have hb : (x.kind == 1) = false := beq_eq_false_iff_ne.2 hk
    clear hk
    go_enter Try.func107, Try.ntmps107
    go_wp2_with fail
    go_ret
    exact ⟨by rw [HK.out]; rfl, (Below.refl _ _).alloc (Nat.le_refl _) _⟩
set_option maxRecDepth 100000 in
theorem bytes_any (x : It) (w : World) (hl : -1000000000 ≤ x.len ∧ x.len ≤ 1073741824) : Calls Try.prog 106 #[.agg #[.int .i64 x.kind, .int .i64 x.src, .int .i64 x.dst, .int .i64 x.prio, .int .u64 x.msg, .int .i64 x.off, .int .i64 x.len, .int .i64 x.total, .int .i64 x.num, .slice x.da x.dn x.dc, .int .i64 x.path]] w fun e w' => e = .returned (.int .i64 x.bytes) ∧ Below w.heap.size w w' := by
  go_enter Try.func106, Try.ntmps106
  go_wp2_with fail
  refine (wsize x _ hl).mono ?_
  rintro e w1 ⟨rfl, hb1⟩
  have HB := Lib.hid (((Below.refl w.heap.size w).alloc (Nat.le_refl _) (.cells #[.int .i64 x.kind, .int .i64 x.src, .int .i64 x.dst, .int .i64 x.prio, .int .u64 x.msg, .int .i64 x.off, .int .i64 x.len, .int .i64 x.total, .int .i64 x.num, .slice x.da x.dn x.dc, .int .i64 x.path] TIt)).trans (hb1.mono (by simp)))
  clear hb1
  go_wp2_with fail
  go_ret
  exact ⟨rfl, HB.out⟩
set_option maxRecDepth 100000 in
theorem push_no (p : Int) (x : It) (w : World) (hp : p < 0 ∨ 8 ≤ p) (q : Option Addr) : Calls Try.prog 66 #[.pointer q, .int .i64 p, .agg #[.int .i64 x.kind, .int .i64 x.src, .int .i64 x.dst, .int .i64 x.prio, .int .u64 x.msg, .int .i64 x.off, .int .i64 x.len, .int .i64 x.total, .int .i64 x.num, .slice x.da x.dn x.dc, .int .i64 x.path]] w fun e w' => e = .returned (.int .i64 1) ∧ Below w.heap.size w w' := by
  rcases hp with h | h
  all_goals
    go_enter Try.func66, Try.ntmps66
    go_wp2_with fail
    all_goals (go_ret; exact ⟨rfl, (Below.refl _ _).alloc (Nat.le_refl _) _⟩)
theorem meth (x : It) (w : World) : (method 175 81 (.agg #[.int .i64 x.kind, .int .i64 x.src, .int .i64 x.dst, .int .i64 x.prio, .int .u64 x.msg, .int .i64 x.off, .int .i64 x.len, .int .i64 x.total, .int .i64 x.num, .slice x.da x.dn x.dc, .int .i64 x.path]) "Bytes").run Try.prog w = .ok (106, .agg #[.int .i64 x.kind, .int .i64 x.src, .int .i64 x.dst, .int .i64 x.prio, .int .u64 x.msg, .int .i64 x.off, .int .i64 x.len, .int .i64 x.total, .int .i64 x.num, .slice x.da x.dn x.dc, .int .i64 x.path]) w := by kernel_rfl
set_option maxRecDepth 100000 in
set_option maxHeartbeats 4000000 in
theorem push_full (b B0 : Nat) (V : Nat → Value) (room u : Int) (L : Nat → List It) (p : Nat) (x : It) (w : World) (h : Qu b B0 V room u L w) (hxl : -1000000000 ≤ x.len ∧ x.len ≤ 1073741824) (hp : p < 8) (_ : 0 ≤ room ∧ room ≤ 1099511627776) (hu : 0 ≤ u ∧ u ≤ room) (hf : room - u < x.sz) : Calls Try.prog 66 #[.pointer (some ⟨b, 0, none⟩), .int .i64 p, .agg #[.int .i64 x.kind, .int .i64 x.src, .int .i64 x.dst, .int .i64 x.prio, .int .u64 x.msg, .int .i64 x.off, .int .i64 x.len, .int .i64 x.total, .int .i64 x.num, .slice x.da x.dn x.dc, .int .i64 x.path]] w fun e w' => e = .returned (.int .i64 4) ∧ Below w.heap.size w w' := by
  have hs := szIt x
  have HO := Lib.hid h.ob
  have HX := Lib.hid (show clampI x.bytes 0 1073741824 = x.sz from rfl)
  have hm := meth x
  clear h
  go_enter Try.func66, Try.ntmps66
  go_wp2_with fail
  refine (bytes_any x _ hxl).mono ?_
  rintro e w1 ⟨rfl, hb1⟩
  have HB1 := Lib.hid (((Below.refl w.heap.size w).alloc (Nat.le_refl _) (.cells #[.int .i64 x.kind, .int .i64 x.src, .int .i64 x.dst, .int .i64 x.prio, .int .u64 x.msg, .int .i64 x.off, .int .i64 x.len, .int .i64 x.total, .int .i64 x.num, .slice x.da x.dn x.dc, .int .i64 x.path] 81)).trans (hb1.mono (by simp)))
  have HO1 := Lib.hid (HO.out.below HB1.out)
  clear hb1
  go_wp2_with fail
  refine (clamp_any _ _ _ _).mono ?_
  rintro e w2 ⟨rfl, rfl⟩
  rw [HX.out]
  obtain ⟨lb, cb, fb⟩ := HO1.out.blk
  unfold qcells at cb
  go_wp2_with fail
  go_quiet (fail)
  go_wp2_with fail
  go_ret
  exact ⟨rfl, below_dn HB1.out⟩
set_option maxRecDepth 100000 in
set_option maxHeartbeats 4000000 in
theorem push_yes (b B0 : Nat) (V : Nat → Value) (room u : Int) (L : Nat → List It) (p : Nat) (x : It) (w : World) (h : Qu b B0 V room u L w) (hxl : -1000000000 ≤ x.len ∧ x.len ≤ 1073741824) (hp : p < 8) (hr : 0 ≤ room ∧ room ≤ 1099511627776) (hu : 0 ≤ u ∧ u ≤ room) (hf : x.sz ≤ room - u) (hlen : (L p).length ≤ 1000000) : Calls Try.prog 66 #[.pointer (some ⟨b, 0, none⟩), .int .i64 p, .agg #[.int .i64 x.kind, .int .i64 x.src, .int .i64 x.dst, .int .i64 x.prio, .int .u64 x.msg, .int .i64 x.off, .int .i64 x.len, .int .i64 x.total, .int .i64 x.num, .slice x.da x.dn x.dc, .int .i64 x.path]] w (PushPost b B0 V room u L p x w) := by
  have hs := szIt x
  have HO := Lib.hid h.ob
  have HQ := Lib.hid h
  have HX := Lib.hid (show clampI x.bytes 0 1073741824 = x.sz from rfl)
  have hm := meth x
  clear h
  go_enter Try.func66, Try.ntmps66
  go_wp2_with fail
  refine (bytes_any x _ hxl).mono ?_
  rintro e w1 ⟨rfl, hb1⟩
  have HX1 := Lib.hid (below_heap hb1 (by simp) (heap_new w (.cells #[.int .i64 x.kind, .int .i64 x.src, .int .i64 x.dst, .int .i64 x.prio, .int .u64 x.msg, .int .i64 x.off, .int .i64 x.len, .int .i64 x.total, .int .i64 x.num, .slice x.da x.dn x.dc, .int .i64 x.path] 81)))
  have HB1 := Lib.hid (((Below.refl w.heap.size w).alloc (Nat.le_refl _) (.cells #[.int .i64 x.kind, .int .i64 x.src, .int .i64 x.dst, .int .i64 x.prio, .int .u64 x.msg, .int .i64 x.off, .int .i64 x.len, .int .i64 x.total, .int .i64 x.num, .slice x.da x.dn x.dc, .int .i64 x.path] 81)).trans (hb1.mono (by simp)))
  have HO1 := Lib.hid (HO.out.below HB1.out)
  have HQ1 := Lib.hid (HQ.out.below HB1.out)
  clear hb1
  go_wp2_with fail
  refine (clamp_any _ _ _ _).mono ?_
  rintro e w2 ⟨rfl, rfl⟩
  rw [HX.out]
  obtain ⟨lb, cb, fb⟩ := HO1.out.blk
  have cp : w1.cell? ⟨b, 2 + p, none⟩ = some (V p) := by rw [cb, q_get _ _ _ _ hp]
  unfold qcells at cb
  obtain ⟨lx, cx, _⟩ := blk HX1.out
  go_wp2_with fail
  refine wp_region_quiet_lit (by kernel_rfl) (by kernel_rfl) ?_
  try simp only [List.append]
  repeat (first | go_big_quiet_step (fail) | quiet_step (fail))
  refine wpQuiet_nil ?_
  intro W hW
  have HQ2 : Hid (Qu b B0 V room (u + x.sz) L (W.setCell ⟨b, 1, none⟩ (.int .i64 (u + x.sz)))) := by
    obtain ⟨n, rfl⟩ := hW; exact Lib.hid (HQ1.out.dn.used (u + x.sz))
  have HX2 : Hid ((W.setCell ⟨b, 1, none⟩ (.int .i64 (u + x.sz))).heap[w.heap.size]? = some (.cells #[.int .i64 x.kind, .int .i64 x.src, .int .i64 x.dst, .int .i64 x.prio, .int .u64 x.msg, .int .i64 x.off, .int .i64 x.len, .int .i64 x.total, .int .i64 x.num, .slice x.da x.dn x.dc, .int .i64 x.path] 81 (0, 0))) := by
    obtain ⟨n, rfl⟩ := hW
    exact Lib.hid ((Go.Deep.blk_setCell_other (w1.drewN n) _ _ _ (by have := HO.out.lt; show w.heap.size ≠ b; omega)).trans HX1.out)
  have HK2 : Hid (Kept (QM b V) w (W.setCell ⟨b, 1, none⟩ (.int .i64 (u + x.sz)))) := by
    obtain ⟨n, rfl⟩ := hW; exact Lib.hid (((Kept.of_below HB1.out).dnR n).set _ _ fun _ => .inl rfl)
  have f0 : W.cell? ⟨b, 1, none⟩ = some (.int .i64 u) := by obtain ⟨n, rfl⟩ := hW; exact cb 1
  have f1 : W.frozen? ⟨b, 1, none⟩ = false := by obtain ⟨n, rfl⟩ := hW; exact fb 1
  clear hW lb cb fb cp lx cx
  go_wp2_with fail
  generalize W.setCell ⟨b, 1, none⟩ (.int .i64 (u + x.sz)) = Y at *
  clear f0 f1
  obtain ⟨lb, cb, fb⟩ := HQ2.out.ob.blk
  have cp : Y.cell? ⟨b, 2 + p, none⟩ = some (V p) := by rw [cb, q_get _ _ _ _ hp]
  clear cb
  obtain ⟨lx, cx, _⟩ := blk HX2.out
  have hMb : ¬ Lm (V p) b := HQ.out.off p hp
  have hMx : ¬ Lm (V p) w.heap.size := fun hh => by have := ((HQ.out.own p hp).lt _ hh).2; omega
  have hY := HK2.out.size
  refine wp_heads (M := (Lm (V p))) 16 (by kernel_rfl) (by kernel_rfl) ?_
  refine hd_quiet [true, true, true, true, true, true, true, true, true, true, true, false, false, true, true, false, false] (by kernel_rfl) ?_
  simp only [pickAt]
  repeat (go_big_quiet_step (fail))
  refine wpQuiet_nil ?_
  refine hd_act 11 rfl (by kernel_rfl) ?_
  refine run_want rfl ?_
  intro A hA
  go_simp
  have O11 := Lib.hid ((HQ2.out.drew.alloc (.cells #[.int .i64 x.kind, .int .i64 x.src, .int .i64 x.dst, .int .i64 x.prio, .int .u64 x.msg, .int .i64 x.off, .int .i64 x.len, .int .i64 x.total, .int .i64 x.num, .slice x.da x.dn x.dc, .int .i64 x.path, .int .i64 x.sz] 142)).own p hp)
  have R11 := Lib.hid (Rd.one (k := 12) Y.drew #[.int .i64 x.kind, .int .i64 x.src, .int .i64 x.dst, .int .i64 x.prio, .int .u64 x.msg, .int .i64 x.off, .int .i64 x.len, .int .i64 x.total, .int .i64 x.num, .slice x.da x.dn x.dc, .int .i64 x.path, .int .i64 x.sz] 142 rfl)
  have K11 := Lib.hid (((Kept.refl (Lm (V p)) Y).drewR).alloc (.cells #[.int .i64 x.kind, .int .i64 x.src, .int .i64 x.dst, .int .i64 x.prio, .int .u64 x.msg, .int .i64 x.off, .int .i64 x.len, .int .i64 x.total, .int .i64 x.num, .slice x.da x.dn x.dc, .int .i64 x.path, .int .i64 x.sz] 142))
  refine hA _ _ ((Kept.refl _ _).alloc _) ?_
  try simp only [Act.put, List.setIfInBounds_toArray, List.set_cons_zero, List.set_cons_succ]
  clear A hA
  refine hd_quiet [false, false, false, false, false, false, false, false, false, false, false, false, false, false, false, false, false] (by kernel_rfl) ?_
  simp only [pickAt]
  repeat (go_big_quiet_step (fail))
  refine wpQuiet_nil ?_
  refine hd_act 12 rfl (by kernel_rfl) ?_
  refine run_want rfl ?_
  intro A hA
  refine wp_appAt (.tmp 46) (.tmp 50) 135 (by rfl) info_thing Try.underlying135 rfl (by decide) O11.out R11.out (by rfl) (by rfl) (by simp [Value.oneCell']) (by omega) (Nat.le_trans (Nat.le_trans HQ.out.base (Nat.le_of_lt lb)) K11.out.size) ?_
  intro v12 w12 ho12 hg12 hb12
  obtain ⟨av, cv, rfl, _, _⟩ := (Rd.of_own ho12).form
  have K12 := Lib.hid (K11.out.trans (Kept.of_grown (M := Lm (V p)) hg12 fun y hy => hy))
  have Q12 := Lib.hid (HQ2.out.line hp (l' := L p ++ [x]) K12.out (by simpa [It.thr] using ho12) (by
    rcases hb12 with h | h
    · exact .inl h
    · refine .inr fun y hy => ?_
      rw [h] at hy; cases hy
      exact Nat.le_of_lt (show Y.heap.size < (Y.heap.push _).size by simp)))
  have F12 : Hid ((Value.slice av ((L p).length + 1) cv).ownBlock = (V p).ownBlock ∨ ∀ y, (Value.slice av ((L p).length + 1) cv).ownBlock = some y → w.heap.size ≤ y) := Lib.hid (by
    rcases hb12 with h | h
    · exact .inl h
    · refine .inr fun y hy => ?_
      rw [h] at hy; cases hy
      exact Nat.le_trans hY (Nat.le_of_lt (show Y.heap.size < (Y.heap.push _).size by simp)))
  have hlb : b < w12.heap.size := Nat.lt_of_lt_of_le lb K12.out.size
  have hfb : ∀ i, w12.frozen? ⟨b, i, none⟩ = false := fun i => (K12.out.frozen b i lb hMb).trans (fb i)
  have hcb : w12.cell? ⟨b, 2 + p, none⟩ = some (V p) := (K12.out.cell b (2 + p) lb hMb).trans cp
  refine hA _ _ (Kept.of_grown (M := Lm (V p)) hg12 fun y hy => hy) ?_
  try simp only [Act.put, List.setIfInBounds_toArray, List.set_cons_zero, List.set_cons_succ]
  clear A hA
  clear ho12 hg12 hb12
  refine hd_quiet [false, false, false, false, false, false, false, false, false, false, false, false, false, false, false, true, false] (by kernel_rfl) ?_
  simp only [pickAt]
  repeat (go_big_quiet_step (fail))
  refine wpQuiet_nil ?_
  refine hd_tail rfl (by kernel_rfl) ?_
  simp only [List.drop_succ_cons, List.drop_zero]
  go_wp2
  refine NoPanic.normal ?_
  go_wp2
  go_ret
  refine ⟨rfl, _, Q12.out, (HK2.out.trans (K12.out.mono fun y _ hy => .inr ⟨p, hp, hy⟩)).set _ _ (fun _ => .inl rfl), fun i hi => ?_⟩
  by_cases hip : i = p
  · subst hip
    rw [upd_same]
    exact F12.out
  · rw [upd_other _ _ hip]; exact .inl rfl
theorem Qu.lineAt {b B0 : Nat} {V : Nat → Value} {room u : Int} {L : Nat → List It} {w : World} (h : Qu b B0 V room u L w) (q : Nat) (hq : q < 8) : ∃ a c, V q = .slice a (L q).length c ∧ w.cell? ⟨b, 2 + q, none⟩ = some (.slice a (L q).length c) ∧ (L q).length ≤ c ∧ c ≤ 9223372036854775807 := by
  obtain ⟨a, c, hv, h1, h2⟩ := (Rd.of_own (h.own q hq)).form
  refine ⟨a, c, hv, ?_, h1, h2⟩
  rw [(h.ob.blk).2.1, q_get _ _ _ _ hq, hv]
def TopIs (L : Nat → List It) (t : Int) : Prop := (t = -1 ∧ ∀ i, i < 8 → L i = []) ∨ ∃ p : Nat, t = p ∧ p < 8 ∧ L p ≠ [] ∧ ∀ i, p < i → i < 8 → L i = []
def TopPost (L : Nat → List It) (w : World) (e : Ending) (w' : World) : Prop := ∃ t : Int, e = .returned (.int .i64 t) ∧ TopIs L t ∧ w = w'
theorem top_any (b B0 : Nat) (V : Nat → Value) (room u : Int) (L : Nat → List It) (w : World) (h : Qu b B0 V room u L w) : Calls Try.prog 82 #[.pointer (some ⟨b, 0, none⟩)] w (TopPost L w) := by
  have HQ := Lib.hid h
  clear h
  go_enter Try.func82, Try.ntmps82
  go_wp2_with fail
  go_loop [3] (fun i => ∃ k : Int, -1 ≤ k ∧ k ≤ 7 ∧ i = .int .i64 k ∧ ∀ j : Nat, k < j → j < 8 → L j = []) (fun i => (intOf i + 1).toNat)
  case atStart => exact ⟨7, by omega, by omega, rfl, fun j h1 h2 => by omega⟩
  case round =>
    obtain ⟨k, k1, k2, rfl, hk⟩ := hrel
    have HK := Lib.hid hk
    clear hk
    by_cases h0 : 0 ≤ k
    · obtain ⟨q, rfl⟩ := Int.eq_ofNat_of_zero_le h0
      obtain ⟨a, c, hv, hc, hl, hm⟩ := HQ.out.lineAt q (by omega)
      clear hv
      by_cases hn : 0 < (L q).length
      · go_wp2_with fail
        go_ret
        exact ⟨_, rfl, .inr ⟨q, rfl, by omega, fun he => by rw [he] at hn; simp at hn, fun i h1 h2 => HK.out i (by omega) h2⟩, rfl⟩
      · go_wp2_with fail
        go_round
        case rel => exact ⟨(q : Int) - 1, by omega, by omega, rfl, fun j h1 h2 => by
          by_cases hj : j = q
          · subst hj; exact List.eq_nil_of_length_eq_zero (by omega)
          · exact HK.out j (by omega) h2⟩
        case measure => simp [intOf]
    · go_wp2_with fail
      go_ret
      exact ⟨_, rfl, .inl ⟨rfl, fun i h1 => HK.out i (by omega) h1⟩, rfl⟩
theorem top_nil (w : World) : Calls Try.prog 82 #[.pointer none] w fun e w' => e = .returned (.int .i64 (-1)) ∧ w = w' := by
  go_enter Try.func82, Try.ntmps82
  go_wp2_with fail
  go_ret
  exact ⟨rfl, rfl⟩
def boxV (x : It) : Value := .agg #[.int .i64 x.kind, .int .i64 x.src, .int .i64 x.dst, .int .i64 x.prio, .int .u64 x.msg, .int .i64 x.off, .int .i64 x.len, .int .i64 x.total, .int .i64 x.num, .slice x.da x.dn x.dc, .int .i64 x.path]
def noBox : Value := .agg #[.int .i64 0, .int .i64 0, .int .i64 0, .int .i64 0, .int .u64 0, .int .i64 0, .int .i64 0, .int .i64 0, .int .i64 0, .slice none 0 0, .int .i64 0]
theorem remove_no (b B0 : Nat) (V : Nat → Value) (room u : Int) (L : Nat → List It) (p k : Int) (w : World) (h : Qu b B0 V room u L w) (hc : p < 0 ∨ 8 ≤ p ∨ k < 0 ∨ ((L p.toNat).length : Int) ≤ k) : Calls Try.prog 77 #[.pointer (some ⟨b, 0, none⟩), .int .i64 p, .int .i64 k] w fun e w' => e = .returned (.tuple #[noBox, .bool false]) ∧ Below w.heap.size w w' := by
  have HQ := Lib.hid h
  clear h
  have hc2 : p < 0 ∨ (0 ≤ p ∧ 8 ≤ p) ∨ (0 ≤ p ∧ p < 8 ∧ k < 0) ∨ (0 ≤ p ∧ p < 8 ∧ 0 ≤ k ∧ ((L p.toNat).length : Int) ≤ k) := by omega
  clear hc
  rcases hc2 with h | ⟨h, h2⟩ | ⟨h, h2, h3⟩ | ⟨h, h2, h3, h4⟩
  rotate_right
  · obtain ⟨q, rfl⟩ := Int.eq_ofNat_of_zero_le h
    rw [Int.toNat_natCast] at h4
    obtain ⟨a, c, hv, hcell, hl, hm⟩ := HQ.out.lineAt q (by omega)
    have lb := HQ.out.ob.lt
    clear hv
    go_enter Try.func77, Try.ntmps77
    go_wp2_with fail
    refine done (.tuple #[noBox, .bool false]) rfl (by simp [noBox, results, Try.results77, go_sem]) ⟨rfl, ?_⟩
    exact ((Below.refl _ _).alloc (Nat.le_refl _) _)
  all_goals
    go_enter Try.func77, Try.ntmps77
    go_wp2_with fail
    refine done (.tuple #[noBox, .bool false]) rfl (by simp [noBox, results, Try.results77, go_sem]) ⟨rfl, ?_⟩
    exact ((Below.refl _ _).alloc (Nat.le_refl _) _)
theorem one_rows (l : List It) : ∀ u ∈ l.flatMap It.thr, u.oneCell' = true := by
  intro u hu
  rw [List.mem_flatMap] at hu
  obtain ⟨x, _, hx⟩ := hu
  simp only [It.thr, List.mem_cons, List.not_mem_nil, or_false] at hx
  rcases hx with rfl | rfl | rfl | rfl | rfl | rfl | rfl | rfl | rfl | rfl | rfl | rfl <;> rfl
def RemPost (b B0 : Nat) (V : Nat → Value) (room u : Int) (L : Nat → List It) (p k : Nat) (x : It) (w : World) (e : Ending) (w' : World) : Prop :=
  e = .returned (.tuple #[boxV x, .bool true]) ∧ ∃ V', Qu b B0 V' room (u - x.sz) (upd L p ((L p).take k ++ (L p).drop (k + 1))) w' ∧ Kept (QM b V) w w' ∧ Fresh w V V'
set_option maxRecDepth 100000 in
set_option maxHeartbeats 4000000 in
theorem remove_yes (b B0 : Nat) (V : Nat → Value) (room u : Int) (L : Nat → List It) (p k : Nat) (w : World) (h : Qu b B0 V room u L w) (hp : p < 8) (hk : k < (L p).length) (hu : (L p)[k].sz ≤ u ∧ u ≤ 1099511627776) : Calls Try.prog 77 #[.pointer (some ⟨b, 0, none⟩), .int .i64 p, .int .i64 k] w (RemPost b B0 V room u L p k (L p)[k] w) := by
  obtain ⟨a, c, hv, hcell, hl, hm⟩ := h.lineAt p hp
  have hown := h.own p hp
  obtain ⟨g, c', hv', hBg, _, _, hgw, hgc, _⟩ := own_some hown (by omega)
  rw [hv] at hv' hown
  cases hv'
  obtain ⟨_, _, _, hxl, cs, hrw, hcl, hct⟩ := own_row hown
  have hgb : g ≠ b := fun he => h.off p hp (by rw [hv]; exact congrArg some he)
  obtain ⟨lb, cb, fb⟩ := h.ob.blk
  have g0 : ∀ j u, ((L p)[k].thr)[j]? = some u → w.cell? ⟨g, k * 12 + j, none⟩ = some u := by
    intro j u hj
    have hj3 : j < 12 := (List.getElem?_eq_some_iff.1 hj).1
    refine hgc _ _ ?_
    rw [flat_get rowThr (L p) k j hj3, List.getElem?_eq_getElem hk]
    exact hj
  have hszx := szIt (L p)[k]
  have HQ := Lib.hid h
  have HCL := Lib.hid hcl
  have HCT := Lib.hid hct
  have HRW := Lib.hid hrw
  have HXL := Lib.hid hxl
  have HV := Lib.hid hv
  obtain ⟨x, hx⟩ : ∃ x, (L p)[k] = x := ⟨_, rfl⟩
  rw [hx] at hu hszx g0 ⊢
  have HX := Lib.hid hx
  have c0 := g0 0 _ rfl
  have c1 := g0 1 _ rfl
  have c2 := g0 2 _ rfl
  have c3 := g0 3 _ rfl
  have c4 := g0 4 _ rfl
  have c5 := g0 5 _ rfl
  have c6 := g0 6 _ rfl
  have c7 := g0 7 _ rfl
  have c8 := g0 8 _ rfl
  have c9 := g0 9 _ rfl
  have c10 := g0 10 _ rfl
  have c11 := g0 11 _ rfl
  rw [Nat.add_zero] at c0
  have cu : w.cell? ⟨b, 1, none⟩ = some (.int .i64 u) := cb 1
  clear h hcl hct hrw hxl hv hx g0 hgc cb hown
  go_enter Try.func77, Try.ntmps77
  go_wp2_with fail
  have QY := Lib.hid ((HQ.out.alloc (.cells #[.int .i64 0, .int .i64 0, .int .i64 0, .int .i64 0, .int .u64 0, .int .i64 0, .int .i64 0, .int .i64 0, .int .i64 0, .slice none 0 0, .int .i64 0] 81)).alloc (.cells #[.int .i64 x.kind, .int .i64 x.src, .int .i64 x.dst, .int .i64 x.prio, .int .u64 x.msg, .int .i64 x.off, .int .i64 x.len, .int .i64 x.total, .int .i64 x.num, .slice x.da x.dn x.dc, .int .i64 x.path, .int .i64 x.sz] 142))
  have KY : Hid (Kept (fun _ => False) w ((w.alloc (.cells #[.int .i64 0, .int .i64 0, .int .i64 0, .int .i64 0, .int .u64 0, .int .i64 0, .int .i64 0, .int .i64 0, .int .i64 0, .slice none 0 0, .int .i64 0] 81)).alloc (.cells #[.int .i64 x.kind, .int .i64 x.src, .int .i64 x.dst, .int .i64 x.prio, .int .u64 x.msg, .int .i64 x.off, .int .i64 x.len, .int .i64 x.total, .int .i64 x.num, .slice x.da x.dn x.dc, .int .i64 x.path, .int .i64 x.sz] 142))) := Lib.hid (((Kept.refl _ _).alloc _).alloc _)
  have OV := Lib.hid ((Ob.new w #[.int .i64 0, .int .i64 0, .int .i64 0, .int .i64 0, .int .u64 0, .int .i64 0, .int .i64 0, .int .i64 0, .int .i64 0, .slice none 0 0, .int .i64 0] 81).alloc (.cells #[.int .i64 x.kind, .int .i64 x.src, .int .i64 x.dst, .int .i64 x.prio, .int .u64 x.msg, .int .i64 x.off, .int .i64 x.len, .int .i64 x.total, .int .i64 x.num, .slice x.da x.dn x.dc, .int .i64 x.path, .int .i64 x.sz] 142))
  have OX : Hid (Ob ((w.alloc (.cells #[.int .i64 0, .int .i64 0, .int .i64 0, .int .i64 0, .int .u64 0, .int .i64 0, .int .i64 0, .int .i64 0, .int .i64 0, .slice none 0 0, .int .i64 0] 81)).alloc (.cells #[.int .i64 x.kind, .int .i64 x.src, .int .i64 x.dst, .int .i64 x.prio, .int .u64 x.msg, .int .i64 x.off, .int .i64 x.len, .int .i64 x.total, .int .i64 x.num, .slice x.da x.dn x.dc, .int .i64 x.path, .int .i64 x.sz] 142)) (w.heap.size + 1) #[.int .i64 x.kind, .int .i64 x.src, .int .i64 x.dst, .int .i64 x.prio, .int .u64 x.msg, .int .i64 x.off, .int .i64 x.len, .int .i64 x.total, .int .i64 x.num, .slice x.da x.dn x.dc, .int .i64 x.path, .int .i64 x.sz] 142) := Lib.hid (by
    have := Ob.new (w.alloc (.cells #[.int .i64 0, .int .i64 0, .int .i64 0, .int .i64 0, .int .u64 0, .int .i64 0, .int .i64 0, .int .i64 0, .int .i64 0, .slice none 0 0, .int .i64 0] 81)) #[.int .i64 x.kind, .int .i64 x.src, .int .i64 x.dst, .int .i64 x.prio, .int .u64 x.msg, .int .i64 x.off, .int .i64 x.len, .int .i64 x.total, .int .i64 x.num, .slice x.da x.dn x.dc, .int .i64 x.path, .int .i64 x.sz] 142
    rw [World.size_alloc] at this; exact this)
  generalize (w.alloc (.cells #[.int .i64 0, .int .i64 0, .int .i64 0, .int .i64 0, .int .u64 0, .int .i64 0, .int .i64 0, .int .i64 0, .int .i64 0, .slice none 0 0, .int .i64 0] 81)).alloc (.cells #[.int .i64 x.kind, .int .i64 x.src, .int .i64 x.dst, .int .i64 x.prio, .int .u64 x.msg, .int .i64 x.off, .int .i64 x.len, .int .i64 x.total, .int .i64 x.num, .slice x.da x.dn x.dc, .int .i64 x.path, .int .i64 x.sz] 142) = Y at *
  clear c0 c1 c2 c3 c4 c5 c6 c7 c8 c9 c10 c11 cu hcell
  have hcell : Y.cell? ⟨b, 2 + p, none⟩ = some (.slice (some ⟨g, 0, none⟩) (L p).length c) := by
    obtain ⟨a, c', hv, hc, _, _⟩ := QY.out.lineAt p hp
    rw [hv] at HV; have := HV.out; cases this; exact hc
  have RY := Lib.hid (HRW.out.kept KY.out (fun h => h))
  have lbY : b < Y.heap.size := QY.out.ob.lt
  have hMb : ¬ Only g b := fun hh => hgb (show b = g from hh).symm
  have sY := KY.out.size
  refine wp_heads (M := (Only g)) 15 (by kernel_rfl) (by kernel_rfl) ?_
  refine hd_quiet [true, true, true, true, true, true, true, true, true, true, true, false, true, true, false, false] (by kernel_rfl) ?_
  simp only [pickAt]
  repeat (go_big_quiet_step (fail))
  refine wpQuiet_nil ?_
  refine hd_act 11 rfl (by kernel_rfl) ?_
  refine run_want rfl ?_
  intro A hA
  go_simp
  refine (delete_thing g (L p).length c k (k + 1) cs _ RY.out.drew HCL.out hl hm (by omega) (by omega) (by rw [HCT.out]; exact one_rows _)).mono ?_
  rintro e w12 ⟨rfl, hk12, cs', hr12, hl12, ht12⟩
  have hn1 : (L p).length - (k + 1 - k) = (L p).length - 1 := by omega
  rw [hn1] at ht12 ⊢
  have K12 := Lib.hid ((Kept.drew (Only g) Y).trans hk12)
  have hll : ((L p).take k ++ (L p).drop (k + 1)).length = (L p).length - 1 := by rw [List.length_append, List.length_take, List.length_drop]; omega
  have hfl : cs'.take (((L p).length - 1) * 12) = ((L p).take k ++ (L p).drop (k + 1)).flatMap It.thr := by
    rw [ht12, List.flatMap_append, ← flat_take rowThr, ← flat_drop rowThr, HCT.out]
    congr 1
    rw [← HCT.out, List.take_take, Nat.min_eq_left (by omega)]
  have O12 : Hid (w12.ownsRow B0 142 12 (.slice (some ⟨g, 0, none⟩) ((L p).length - 1) c) ((L p).take k ++ (L p).drop (k + 1)).length (((L p).take k ++ (L p).drop (k + 1)).flatMap It.thr)) := Lib.hid (by
    rw [hll]
    exact row_own hBg (by omega) hm hr12 (by rw [hl12]; exact HCL.out) hfl)
  have Q12 := Lib.hid (QY.out.line hp (K12.out.mono fun y _ hy => by have : y = g := hy; subst this; show (V p).ownBlock = some y; rw [HV.out]; rfl) O12.out (.inl (by rw [HV.out]; rfl)))
  have hlb : b < w12.heap.size := Nat.lt_of_lt_of_le lbY K12.out.size
  have hfb : ∀ i, w12.frozen? ⟨b, i, none⟩ = false := fun i => (K12.out.frozen b i lbY hMb).trans ((QY.out.ob.blk).2.2 i)
  have hcb : w12.cell? ⟨b, 2 + p, none⟩ = some (.slice (some ⟨g, 0, none⟩) (L p).length c) := (K12.out.cell b (2 + p) lbY hMb).trans hcell
  have OX12 := Lib.hid (OX.out.kept K12.out (fun hh => by have : w.heap.size + 1 = g := hh; omega))
  have OV12 := Lib.hid (OV.out.kept K12.out (fun hh => by have : w.heap.size = g := hh; omega))
  refine hA _ _ (hk12) ?_
  try simp only [Act.put, List.setIfInBounds_toArray, List.set_cons_zero, List.set_cons_succ]
  clear A hA
  clear hk12 hr12 hl12 ht12 hfl hll hn1
  refine hd_quiet [false, false, false, false, false, false, false, false, false, false, false, false, false, false, true, false] (by kernel_rfl) ?_
  simp only [pickAt]
  repeat (go_big_quiet_step (fail))
  refine wpQuiet_nil ?_
  refine hd_tail rfl (by kernel_rfl) ?_
  simp only [List.drop_succ_cons, List.drop_zero]
  go_wp2
  refine NoPanic.normal ?_
  go_wp2_with fail
  have OXZ := Lib.hid (OX12.out.other ⟨b, 2 + p, none⟩ (.slice (some ⟨g, 0, none⟩) ((L p).length - 1) c) (by show w.heap.size + 1 ≠ b; omega))
  have OVZ := Lib.hid (OV12.out.other ⟨b, 2 + p, none⟩ (.slice (some ⟨g, 0, none⟩) ((L p).length - 1) c) (by show w.heap.size ≠ b; omega))
  have KZ := Lib.hid (((KY.out.mono fun _ _ h => h.elim).trans (K12.out.mono fun y _ hy => show QM b V y from .inr ⟨p, hp, by have : y = g := hy; subst this; rw [HV.out]; rfl⟩)).set ⟨b, 2 + p, none⟩ (.slice (some ⟨g, 0, none⟩) ((L p).length - 1) c) (fun _ => .inl rfl))
  clear hlb hfb hcb
  generalize w12.setCell ⟨b, 2 + p, none⟩ (.slice (some ⟨g, 0, none⟩) ((L p).length - 1) c) = Z at *
  obtain ⟨lz, cz, fz⟩ := Q12.out.ob.blk
  have z1 : Z.cell? ⟨b, 1, none⟩ = some (.int .i64 u) := cz 1
  obtain ⟨lx, cx, fx⟩ := OXZ.out.blk
  obtain ⟨lv, cv, fv⟩ := OVZ.out.blk
  clear cz
  refine region_tail 7 (by kernel_rfl) (by kernel_rfl) ?_
  simp only [List.take_succ_cons, List.take_zero, List.drop_succ_cons, List.drop_zero]
  repeat (first | still_step)
  refine wpStill_nil ?_
  go_wp2
  have hw : ((((((((((((Z.setCell ⟨b, 1, none⟩ (.int .i64 (u - x.sz))).setCell ⟨w.heap.size, 0, none⟩ (.int .i64 x.kind)).setCell ⟨w.heap.size, 1, none⟩ (.int .i64 x.src)).setCell ⟨w.heap.size, 2, none⟩ (.int .i64 x.dst)).setCell ⟨w.heap.size, 3, none⟩ (.int .i64 x.prio)).setCell ⟨w.heap.size, 4, none⟩ (.int .u64 x.msg)).setCell ⟨w.heap.size, 5, none⟩ (.int .i64 x.off)).setCell ⟨w.heap.size, 6, none⟩ (.int .i64 x.len)).setCell ⟨w.heap.size, 7, none⟩ (.int .i64 x.total)).setCell ⟨w.heap.size, 8, none⟩ (.int .i64 x.num)).setCell ⟨w.heap.size, 9, none⟩ (.slice x.da x.dn x.dc)).setCell ⟨w.heap.size, 10, none⟩ (.int .i64 x.path)) = ((Z.setCell ⟨b, 1, none⟩ (.int .i64 (u - x.sz))).setCells w.heap.size 0 [.int .i64 x.kind, .int .i64 x.src, .int .i64 x.dst, .int .i64 x.prio, .int .u64 x.msg, .int .i64 x.off, .int .i64 x.len, .int .i64 x.total, .int .i64 x.num, .slice x.da x.dn x.dc, .int .i64 x.path]) := rfl
  rw [hw]
  clear hw
  have OF := Lib.hid (((OVZ.out.other ⟨b, 1, none⟩ (.int .i64 (u - x.sz)) (by show w.heap.size ≠ b; omega)).sets [.int .i64 x.kind, .int .i64 x.src, .int .i64 x.dst, .int .i64 x.prio, .int .u64 x.msg, .int .i64 x.off, .int .i64 x.len, .int .i64 x.total, .int .i64 x.num, .slice x.da x.dn x.dc, .int .i64 x.path] rfl).drew)
  have KF : Hid (Kept (Only w.heap.size) (Z.setCell ⟨b, 1, none⟩ (.int .i64 (u - x.sz))) ((Z.setCell ⟨b, 1, none⟩ (.int .i64 (u - x.sz))).setCells w.heap.size 0 [.int .i64 x.kind, .int .i64 x.src, .int .i64 x.dst, .int .i64 x.prio, .int .u64 x.msg, .int .i64 x.off, .int .i64 x.len, .int .i64 x.total, .int .i64 x.num, .slice x.da x.dn x.dc, .int .i64 x.path]).drew) := Lib.hid (((Kept.refl (Only w.heap.size) (Z.setCell ⟨b, 1, none⟩ (.int .i64 (u - x.sz)))).setsO (X := w.heap.size) (show w.heap.size = w.heap.size from rfl) [.int .i64 x.kind, .int .i64 x.src, .int .i64 x.dst, .int .i64 x.prio, .int .u64 x.msg, .int .i64 x.off, .int .i64 x.len, .int .i64 x.total, .int .i64 x.num, .slice x.da x.dn x.dc, .int .i64 x.path]).drewR)
  have QF := Lib.hid ((Q12.out.used (u - x.sz)).kept KF.out (fun y hy hh => by
    have hyw : y = w.heap.size := hh
    subst hyw
    rcases hy with hy | ⟨i, hi, hy⟩
    · omega
    · by_cases hip : i = p
      · subst hip; rw [upd_same] at hy
        have : g = w.heap.size := Option.some.inj hy
        omega
      · rw [upd_other _ _ hip] at hy
        have := ((HQ.out.own i hi).lt _ hy).2
        omega))
  have KW : Hid (Kept (QM b V) w ((Z.setCell ⟨b, 1, none⟩ (.int .i64 (u - x.sz))).setCells w.heap.size 0 [.int .i64 x.kind, .int .i64 x.src, .int .i64 x.dst, .int .i64 x.prio, .int .u64 x.msg, .int .i64 x.off, .int .i64 x.len, .int .i64 x.total, .int .i64 x.num, .slice x.da x.dn x.dc, .int .i64 x.path]).drew) :=
    Lib.hid (((KZ.out.set ⟨b, 1, none⟩ (.int .i64 (u - x.sz)) (fun _ => .inl rfl)).setsN (X := w.heap.size) (Nat.le_refl _) [.int .i64 x.kind, .int .i64 x.src, .int .i64 x.dst, .int .i64 x.prio, .int .u64 x.msg, .int .i64 x.off, .int .i64 x.len, .int .i64 x.total, .int .i64 x.num, .slice x.da x.dn x.dc, .int .i64 x.path]).drewR)
  clear lz z1 fz lx cx fx lv cv fv
  generalize ((Z.setCell ⟨b, 1, none⟩ (.int .i64 (u - x.sz))).setCells w.heap.size 0 [.int .i64 x.kind, .int .i64 x.src, .int .i64 x.dst, .int .i64 x.prio, .int .u64 x.msg, .int .i64 x.off, .int .i64 x.len, .int .i64 x.total, .int .i64 x.num, .slice x.da x.dn x.dc, .int .i64 x.path]).drew = F at *
  obtain ⟨lf, cf, ff⟩ := OF.out.blk
  have cf0 : F.cell? ⟨w.heap.size, 0, none⟩ = some (.int .i64 x.kind) := cf 0
  have cf1 : F.cell? ⟨w.heap.size, 1, none⟩ = some (.int .i64 x.src) := cf 1
  have cf2 : F.cell? ⟨w.heap.size, 2, none⟩ = some (.int .i64 x.dst) := cf 2
  have cf3 : F.cell? ⟨w.heap.size, 3, none⟩ = some (.int .i64 x.prio) := cf 3
  have cf4 : F.cell? ⟨w.heap.size, 4, none⟩ = some (.int .u64 x.msg) := cf 4
  have cf5 : F.cell? ⟨w.heap.size, 5, none⟩ = some (.int .i64 x.off) := cf 5
  have cf6 : F.cell? ⟨w.heap.size, 6, none⟩ = some (.int .i64 x.len) := cf 6
  have cf7 : F.cell? ⟨w.heap.size, 7, none⟩ = some (.int .i64 x.total) := cf 7
  have cf8 : F.cell? ⟨w.heap.size, 8, none⟩ = some (.int .i64 x.num) := cf 8
  have cf9 : F.cell? ⟨w.heap.size, 9, none⟩ = some (.slice x.da x.dn x.dc) := cf 9
  have cf10 : F.cell? ⟨w.heap.size, 10, none⟩ = some (.int .i64 x.path) := cf 10
  clear cf
  refine done (.tuple #[boxV x, .bool true]) rfl (by simp [boxV, results, Try.results77, go_sem, cf0, cf1, cf2, cf3, cf4, cf5, cf6, cf7, cf8, cf9, cf10]) ⟨rfl, _, QF.out, KW.out, fun i hi => ?_⟩
  by_cases hip : i = p
  · subst hip
    rw [upd_same, HV.out]
    exact .inl rfl
  · rw [upd_other _ _ hip]; exact .inl rfl
end Go.Proofs.Ytoihhidoafgoaaa
