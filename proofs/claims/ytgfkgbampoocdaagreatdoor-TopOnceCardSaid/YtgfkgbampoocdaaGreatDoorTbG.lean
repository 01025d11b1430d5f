/- What a host gets (chapter 20): a message of one part that is new. -/
import Derived.Test.YtgfkgbampoocdaaGreatDoorTbF
namespace Go.Proofs.YtgfkgbampoocdaaGreatDoor
open Go.RowKit

def msg (m : Int × Option Addr × Nat × Nat) : List Value := [.int .i64 3, .int .u64 m.1, .slice m.2.1 m.2.2.1 m.2.2.2]
/-- messages in a row -/
def Ms (xs : List Value) : Prop := ∃ l : List (Int × Option Addr × Nat × Nat), xs = l.flatMap msg
theorem Ms.nil : Ms [] := ⟨[], rfl⟩
theorem Ms.one {xs : List Value} (h : Ms xs) : ∀ u ∈ xs, u.oneCell' = true := by
  obtain ⟨l, rfl⟩ := h
  intro u hu
  obtain ⟨m, _, hm⟩ := List.mem_flatMap.1 hu
  simp [msg] at hm
  rcases hm with rfl | rfl | rfl <;> rfl
theorem Ms.more {xs : List Value} (h : Ms xs) (id : Int) (p : Option Addr) (n c : Nat) : Ms (xs ++ [.int .i64 3, .int .u64 id, .slice p n c]) := by
  obtain ⟨l, rfl⟩ := h
  exact ⟨l ++ [(id, p, n, c)], by rw [List.flatMap_append]; rfl⟩
theorem Ms.first {xs : List Value} {n : Nat} (h : Ms xs) (hl : xs.length = (n + 1) * 3) : ∃ id p k c ys, xs = .int .i64 3 :: .int .u64 id :: .slice p k c :: ys ∧ Ms ys := by
  obtain ⟨l, rfl⟩ := h
  cases l with
  | nil => simp at hl
  | cons m l => exact ⟨m.1, m.2.1, m.2.2.1, m.2.2.2, _, rfl, l, rfl⟩
def RvPost (r : Rs) (B : Nat) (V : Value) (S' : Wd) (out : Value) (n' : Nat) (a : Nat) (w w' : World) : Prop :=
  ∃ V' out' xs', Rv r B V' S' 0 none out' n' xs' w' ∧ Ms xs' ∧ Kept (fun x => x = a ∨ RvM r V out x) w w' ∧ ∀ x, RvM r V' out' x → RvM r V out x ∨ w.heap.size ≤ x
theorem info_msg : (Tryz.prog.info? TMsg).map (fun i => (i.zero, i.size, i.bytes)) = some (some (.agg #[.int .i64 0, .int .u64 0, .slice none 0 0]), 3, 40) := by kernel_rfl
set_option maxRecDepth 100000 in
set_option maxHeartbeats 2000000 in
theorem data_new {x : Ev.Bn} {o : Nat} {H H' : Ev.Hp} (hr : Ev.runNew = some (x, o, H)) (hp : Ev.runPut x o H = some H') (hd : Ev.runDat x o H' = true) (r : Rs) (B : Nat) (V : Value) (S : Wd) (out : Value) (n : Nat) (xs : List Value) (id : Int) (a : Nat) (w : World) (h : Rv r B V S 0 none out n xs w) (h1 : Ms xs) (hn : n ≤ 1000) (ho : S.ok) (hl : S.l.length < 100) (hid : id ≠ 0 ∧ id ≤ 1152921504606846976) (hid0 : 0 ≤ id) (hi : S.is id = false) (ha : Ob w a #[.int .u8 7] 5) : Calls Tryz.prog 7 #[.pointer (some ⟨r.R, 0, none⟩), .int .i64 3, .int .u64 id, .int .i64 1, .int .i64 0, .slice (some ⟨a, 0, none⟩) 1 1] w fun e w' => e = .returned (.tuple #[.int .i64 1, .bool true, .int .i64 0]) ∧ RvPost r B V (S.done id) out (n + 1) a w w' := by
  obtain ⟨lb, cb, fb⟩ := h.ob.blk
  have c1 : w.cell? ⟨r.R, 1, none⟩ = some (.pointer (some ⟨r.t, 0, none⟩)) := cb 1
  have HR := Lib.hid h
  have HA := Lib.hid ha
  have HX := Lib.hid h1
  have HO := Lib.hid ho
  have HL := Lib.hid hl
  have HD := Lib.hid hid
  have e1 : (id == 0) = false := beq_eq_false_iff_ne.2 hid.1
  have e2 : decide (1152921504606846976 < id) = false := decide_eq_false (by omega)
  have HI := Lib.hid hi
  clear cb h ho hid hi ha h1 hl
  go_enter Tryz.func7, Tryz.ntmps7
  go_wp2_with fail
  refine (ended_any r B V S 0 none out n xs id _ HR.out HO.out).mono ?_
  rw [HI.out]
  rintro e w1 ⟨rfl, q, rfl⟩
  have HR1 := Lib.hid (HR.out.keptF (Kept.dn _ _ q))
  have HA1 := Lib.hid (HA.out.dn (n := q))
  have HK1 := Lib.hid (Kept.dn (fun _ => False) w q)
  generalize w.drewN q = w1 at *
  clear c1 lb fb
  obtain ⟨lb, cb, fb⟩ := HR1.out.ob.blk
  have c0 : w1.cell? ⟨r.R, 0, none⟩ = some (.int .i64 1000) := cb 0
  clear cb
  go_wp2_with fail
  refine (opens_new hr r B V S id out n xs a _ HR1.out HA1.out (fun hh => by have := HL.out; omega) (by have := HL.out; omega)).mono ?_
  rintro e w2 ⟨v, B1, rfl, hr2, hb2, hB1, hB2, hk2⟩
  have HR2 := Lib.hid hr2
  have HA2 := Lib.hid hb2
  have HB1 := Lib.hid hB1
  have HB2 := Lib.hid hB2
  have HK2 := Lib.hid hk2
  have HnA := Lib.hid (HR1.out.byte HA1.out)
  have hlt : ∀ x, RvM r V out x → ¬ AorB a B1 x := fun x hx hh => by
    rcases hh with rfl | hh
    · exact HnA.out hx
    · have := (HR1.out.lt x hx).2
      omega
  have HLT := Lib.hid hlt
  clear hr2 hb2 hB1 hB2 hk2 c0 lb fb hlt
  go_wp2_with fail
  refine (put_byte hp a B1 v _ HA2.out HB2.out).mono ?_
  rintro e w3 ⟨rfl, hb3, hk3⟩
  have HA3 := Lib.hid hb3
  have HR3 := Lib.hid (HR2.out.kept hk3 HLT.out)
  have HK3 := Lib.hid hk3
  clear hb3 hk3
  go_wp2_with fail
  refine (data_byte hd a B1 v _ HA3.out).mono ?_
  rintro e w4 ⟨p4, n4, c4, rfl, hk4⟩
  have HR4 := Lib.hid (HR3.out.kept hk4 HLT.out)
  have HK4 := Lib.hid hk4
  clear hk4
  go_wp2_with fail
  refine (forget_one r B V S id _ out n xs _ HR4.out).mono ?_
  rintro e w5 ⟨rfl, hr5, hk5⟩
  have HR5 := Lib.hid hr5
  have HK5 := Lib.hid hk5
  clear hr5 hk5
  obtain ⟨lb, cb, fb⟩ := HR5.out.ob.blk
  have c5 : w5.cell? ⟨r.R, 5, none⟩ = some (.pointer (some ⟨r.m, 0, none⟩)) := cb 5
  clear cb
  go_wp2_with fail
  refine (done_any r.m B V S id _ HR5.out.wi HO.out hid0).mono ?_
  rintro e w6 ⟨rfl, V', hw6, hk6, hn6⟩
  obtain ⟨⟨a1, a2, a3⟩, ⟨b1, b2, b3⟩, d1, d2, d3, d4⟩ := HR5.out.apart
  have HW6 := Lib.hid hw6
  have HN6 := Lib.hid hn6
  have HK6 := Lib.hid hk6
  have HO6 := Lib.hid (HR5.out.ob.kept hk6 b1)
  have HT6 := Lib.hid (HR5.out.tb.kept hk6 b2 b3)
  have HU6 := Lib.hid (own_kept HR5.out.ou hk6 (fun y hy hh => d4 y hh hy))
  clear hw6 hk6 hn6 c5 lb fb
  obtain ⟨lb, cb, fb⟩ := HO6.out.blk
  obtain ⟨oa, oc, rfl, _, _⟩ := (Rd.of_own HU6.out).form
  have c19 : w6.cell? ⟨r.R, 19, none⟩ = some (.slice oa n oc) := cb 19
  clear cb
  have HBs := Lib.hid (Nat.le_trans HR.out.bR (Nat.le_of_lt HO6.out.lt))
  have hk7 : Kept (fun y => (Value.slice oa n oc).ownBlock = some y) w6 (w6.alloc (.cells #[.int .i64 3, .int .u64 id, .slice p4 n4 c4] TMsg)) := (Kept.refl _ w6).alloc _
  have HK7 := Lib.hid hk7
  have HU7 := Lib.hid (own_kept HU6.out ((Kept.refl (fun _ => False) w6).alloc (.cells #[.int .i64 3, .int .u64 id, .slice p4 n4 c4] TMsg)) (fun _ _ h => h))
  clear hk7
  go_wp2_with (at_builtin; refine wpList_appAt rfl (.tmp 117) (.tmp 122) 65 rfl info_msg Tryz.underlying65 rfl (by decide) HU7.out (Rd.one (k := 3) w6 #[.int .i64 3, .int .u64 id, .slice p4 n4 c4] TMsg rfl) rfl rfl (fun u hu => by simp at hu; rcases hu with rfl | rfl | rfl <;> rfl) (by omega) (by rw [World.size_alloc]; have := HBs.out; omega) ?_; intro out' w7 ho' hg' hb'; obtain ⟨oa', oc', rfl, _, _⟩ := (Rd.of_own ho').form; have HU8 := Lib.hid ho'; have HG8 := Lib.hid hg'; have HB8 := Lib.hid hb'; clear ho' hg' hb' c19 lb fb; have HO8 := Lib.hid (HO6.out.kept (HK7.out.trans (Kept.of_grown HG8.out fun y hy => hy)) d1); obtain ⟨lb, cb, fb⟩ := HO8.out.blk; have c19 : w7.cell? ⟨r.R, 19, none⟩ = some (.slice oa n oc) := cb 19; clear cb)
  go_ret3
  have hk8 : Kept (fun y => (Value.slice oa n oc).ownBlock = some y) w6 w7 := HK7.out.trans (Kept.of_grown HG8.out fun y hy => hy)
  have hN8 : ∀ y, (Value.slice oa' (n + 1) oc').ownBlock = some y → (Value.slice oa n oc).ownBlock = some y ∨ w6.heap.size ≤ y := fun y hy => by
    rcases HB8.out with hb' | hb'
    · exact .inl (by rw [← hb']; exact hy)
    · rw [hb'] at hy
      injection hy with hy
      rw [World.size_alloc] at hy
      exact .inr (by omega)
  have hW6 : ∀ y, WM r.m V' y → ¬ (Value.slice oa n oc).ownBlock = some y := fun y hy e => by
    rcases HN6.out y hy with hh | hh
    · exact d4 y hh e
    · have := (own_lt HR5.out.ou y e).2
      omega
  have hk9 : Kept (Only r.R) w7 (w7.setCell ⟨r.R, 19, none⟩ (.slice oa' (n + 1) oc')) := Kept.setO (Kept.refl _ w7)
  have nR : ∀ y, Only r.R y → y = r.R := fun _ h => h
  have nR6 : ¬ WM r.m V' r.R := fun hh => by
    rcases HN6.out _ hh with hh | hh
    · exact b1 hh
    · have := HR5.out.ob.lt
      omega
  have nR8 : ∀ y, (Value.slice oa' (n + 1) oc').ownBlock = some y → y ≠ r.R := fun y hy e => by
    subst e
    rcases hN8 _ hy with hh | hh
    · exact d1 hh
    · have := HO6.out.lt
      omega
  have s1 := HK1.out.size
  have s2 := HK2.out.size
  have s3 := HK3.out.size
  have s4 := HK4.out.size
  have s5 := HK5.out.size
  have s6 := HK6.out.size
  have sB := HB1.out
  have k2 : Kept (fun y => y = a ∨ RvM r V (.slice oa n oc) y) w w2 := (HK1.out.mono fun _ _ h => h.elim).comp HK2.out fun y hy => by
    rcases hy with hy | hy | hy | hy
    · exact .inl (.inl hy)
    · exact .inl (.inr (.inl hy))
    · exact .inl (.inr (.inr (.inl hy)))
    · exact .inl (.inr (.inr (.inr (.inl hy))))
  have kA : ∀ y, AorB a B1 y → (y = a ∨ RvM r V (.slice oa n oc) y) ∨ w.heap.size ≤ y := fun y hy => by
    rcases hy with hy | hy
    · exact .inl (.inl hy)
    · exact .inr (by omega)
  have k5 := ((k2.comp HK3.out kA).comp HK4.out kA).comp HK5.out fun y hy => by
    rcases hy with hy | hy | hy
    · exact .inl (.inr (.inl hy))
    · exact .inl (.inr (.inr (.inl hy)))
    · exact .inl (.inr (.inr (.inr (.inl hy))))
  have k9 := ((k5.comp HK6.out fun y hy => .inl (.inr (.inr (.inr (.inr (.inl hy)))))).comp hk8 fun y hy => .inl (.inr (.inr (.inr (.inr (.inr hy)))))).comp hk9 fun y hy => .inl (.inr (.inl (nR y hy)))
  refine ⟨rfl, V', .slice oa' (n + 1) oc', _, ⟨Ob.cast (HO8.out.set 19 (.slice oa' (n + 1) oc')) rfl, (HT6.out.kept hk8 d2 d3).kept hk9 a1.symm a2.symm, (HW6.out.kept hk8 hW6).kept hk9 (fun y hy hh => by rw [nR y hh] at hy; exact nR6 hy), own_kept HU8.out hk9 (fun y hy hh => nR8 y hy (nR y hh)), HR.out.bR, HR.out.bt, HR.out.bs⟩, HX.out.more id p4 n4 c4, k9, fun y hy => ?_⟩
  rcases hy with hy | hy | hy | hy | hy
  · exact .inl (.inl hy)
  · exact .inl (.inr (.inl hy))
  · exact .inl (.inr (.inr (.inl hy)))
  · rcases HN6.out y hy with hh | hh
    · exact .inl (.inr (.inr (.inr (.inl hh))))
    · exact .inr (by omega)
  · rcases hN8 y hy with hh | hh
    · exact .inl (.inr (.inr (.inr (.inr hh))))
    · exact .inr (by omega)
end Go.Proofs.YtgfkgbampoocdaaGreatDoor
