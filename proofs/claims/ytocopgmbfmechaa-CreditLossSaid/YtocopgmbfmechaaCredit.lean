/- Contracts of credit's rate (chapter 19) and of the reference's. -/
import Derived.Test.YtocopgmbfmechaaNum
import Derived.Test.YtocopgmbfmechaaRun
namespace Go.Proofs.Ytocopgmbfmechaa
open Go.RowKit

/-- a rate: most, target, rate, aggressiveness, how many rises -/
structure Cr where
  m : Int
  g : Int
  r : Int
  a : Int
  n : Int
def Cr.cI (s : Cr) : Array Value := #[.int .i64 s.m, .int .i64 s.g, .int .i64 s.r, .int .i64 s.a, .int .i64 s.n]
def Cr.cM (s : Cr) : Array Value := #[.int .i64 s.m, .int .i64 s.g, .int .i64 s.r, .int .i64 s.a, .int .i64 s.n, .bool (decide (0 < s.n))]
structure Cr.ok (s : Cr) (k : Int) : Prop where
  m0 : 65536 ≤ s.m
  m1 : s.m ≤ 68719476736
  g0 : 0 ≤ s.g
  g1 : s.g ≤ 65536
  r0 : s.m / 64 ≤ s.r
  r1 : s.r ≤ s.m
  a0 : 1024 ≤ s.a
  a1 : s.a ≤ 32768
  n0 : 0 ≤ s.n
  n1 : s.n ≤ k
theorem clampI_b (v l h : Int) (hlh : l ≤ h) : l ≤ clampI v l h ∧ clampI v l h ≤ h := by
  unfold clampI
  split
  · omega
  · split <;> omega
theorem timesI_b (a b : Int) : 0 ≤ timesI a b ∧ timesI a b ≤ 1125899906842624 := by
  have := Int.mul_nonneg (hold_b a).1 (hold_b b).1
  unfold timesI; omega
def sentI (sent : Int) : Int := clampI sent 0 1073741824
def lostI (sent lost : Int) : Int := clampI lost 0 (sentI sent)
def lossI (sent lost : Int) : Int := lostI sent lost * 65536 / sentI sent
def Cr.aggr (s : Cr) : Int := if 0 < s.n then (s.a + 32768) / 2 else s.a
def Cr.fit (s : Cr) (r a n : Int) : Cr := ⟨s.m, s.g, clampI r (s.m / 64) s.m, clampI a 1024 32768, n⟩
def Cr.up (s : Cr) (sent lost : Int) : Cr :=
  if sentI sent = 0 then s
  else if lossI sent lost ≤ s.g then s.fit (addI (timesI s.aggr s.m) (timesI (65536 - s.aggr) s.r)) s.aggr (s.n + 1)
  else s.fit (timesI (timesI s.r (65536 - lossI sent lost)) (65536 + s.g)) (s.a / 2) 0
theorem sent_b (x : Int) : 0 ≤ sentI x ∧ sentI x ≤ 1073741824 := clampI_b _ _ _ (by decide)
theorem lost_b (x y : Int) : 0 ≤ lostI x y ∧ lostI x y ≤ sentI x := clampI_b _ _ _ (sent_b x).1
theorem loss_b (x y : Int) (h : sentI x ≠ 0) : 0 ≤ lossI x y ∧ lossI x y ≤ 65536 := by
  obtain ⟨h1, h2⟩ := sent_b x
  obtain ⟨h3, h4⟩ := lost_b x y
  unfold lossI
  constructor
  · exact Int.ediv_nonneg (by omega) h1
  · exact Int.ediv_le_of_le_mul (by omega) (by omega)
theorem fit_ok {s : Cr} {k : Int} (h : s.ok k) (r a n k' : Int) (hn : 0 ≤ n) (hk : n ≤ k') : (s.fit r a n).ok k' := by
  obtain ⟨h1, h2, h3, h4, h5, h6, h7, h8, h9, h10⟩ := h
  have := clampI_b r (s.m / 64) s.m (by omega)
  have := clampI_b a 1024 32768 (by decide)
  exact ⟨h1, h2, h3, h4, by show s.m / 64 ≤ clampI r (s.m / 64) s.m; omega, by show clampI r (s.m / 64) s.m ≤ s.m; omega, by show 1024 ≤ clampI a 1024 32768; omega, by show clampI a 1024 32768 ≤ 32768; omega, hn, hk⟩
theorem up_ok {s : Cr} {k : Int} (h : s.ok k) (x y : Int) : (s.up x y).ok (k + 1) := by
  have hn := h.n0
  have hk := h.n1
  unfold Cr.up
  split
  · obtain ⟨h1, h2, h3, h4, h5, h6, h7, h8, h9, h10⟩ := h
    exact ⟨h1, h2, h3, h4, h5, h6, h7, h8, h9, by omega⟩
  · split
    · exact fit_ok h _ _ _ _ (by omega) (by omega)
    · exact fit_ok h _ _ _ _ (by omega) (by omega)
theorem aggr_b {s : Cr} {k : Int} (h : s.ok k) : 1024 ≤ s.aggr ∧ s.aggr ≤ 32768 := by
  have := h.a0
  have := h.a1
  unfold Cr.aggr; split <;> omega
def CrI (b : Nat) (s : Cr) (w : World) : Prop := Ob w b s.cI 54
def CrM (b : Nat) (s : Cr) (w : World) : Prop := Ob w b s.cM 38
theorem CrM.at {b : Nat} {s : Cr} {w : World} (h : CrM b s w) : b < w.heap.size ∧ w.cell? ⟨b, 0, none⟩ = some (.int .i64 s.m) ∧ w.cell? ⟨b, 1, none⟩ = some (.int .i64 s.g) ∧ w.cell? ⟨b, 2, none⟩ = some (.int .i64 s.r) ∧ w.cell? ⟨b, 3, none⟩ = some (.int .i64 s.a) ∧ w.cell? ⟨b, 4, none⟩ = some (.int .i64 s.n) ∧ w.cell? ⟨b, 5, none⟩ = some (.bool (decide (0 < s.n))) ∧ ∀ i, w.frozen? ⟨b, i, none⟩ = false := by
  obtain ⟨h1, h2, h3⟩ := Ob.blk h
  exact ⟨h1, h2 0, h2 1, h2 2, h2 3, h2 4, h2 5, h3⟩
def CrPostM (b : Nat) (s : Cr) (v : Value) (w : World) (e : Ending) (w' : World) : Prop := e = .returned v ∧ CrM b s w' ∧ Kept (Only b) w w'
theorem CrI.at {b : Nat} {s : Cr} {w : World} (h : CrI b s w) : b < w.heap.size ∧ w.cell? ⟨b, 0, none⟩ = some (.int .i64 s.m) ∧ w.cell? ⟨b, 1, none⟩ = some (.int .i64 s.g) ∧ w.cell? ⟨b, 2, none⟩ = some (.int .i64 s.r) ∧ w.cell? ⟨b, 3, none⟩ = some (.int .i64 s.a) ∧ w.cell? ⟨b, 4, none⟩ = some (.int .i64 s.n) ∧ ∀ i, w.frozen? ⟨b, i, none⟩ = false := by
  obtain ⟨h1, h2, h3⟩ := Ob.blk h
  exact ⟨h1, h2 0, h2 1, h2 2, h2 3, h2 4, h3⟩
def CrPost (b : Nat) (s : Cr) (v : Value) (w : World) (e : Ending) (w' : World) : Prop := e = .returned v ∧ CrI b s w' ∧ Kept (Only b) w w'
def Cr.risen (s : Cr) : Cr := ⟨s.m, s.g, addI (timesI s.aggr s.m) (timesI (65536 - s.aggr) s.r), s.aggr, s.n + 1⟩
set_option maxHeartbeats 400000 in
theorem rise_any (b : Nat) (s : Cr) (k : Int) (w : World) (h : CrI b s w) (hok : s.ok k) (hk : k ≤ 1000000) : Calls Try.prog 22 #[.pointer (some ⟨b, 0, none⟩)] w (CrPost b s.risen (.tuple #[]) w) := by
  obtain ⟨h1, h2, h3, h4, h5, h6, h7, h8, h9, h10⟩ := hok
  have HB := Lib.hid h
  obtain ⟨lb, c0, c1, c2, c3, c4, fb⟩ := h.at
  clear h
  by_cases hn : 0 < s.n
  · have HA := Lib.hid (show s.aggr = (s.a + 32768) / 2 from if_pos hn)
    unfold Cr.risen
    rw [HA.out]
    go_enter Try.func22, Try.ntmps22
    go_wp2_with fail
    refine region_tail 21 (by kernel_rfl) (by kernel_rfl) ?_
    simp only [List.take_succ_cons, List.take_zero, List.drop_succ_cons, List.drop_zero]
    repeat (first | still_step | still_call (still (by_any _ _ _)) | still_call (still (plus_any _ _ _)))
    refine wpStill_nil ?_
    go_wp2
    go_end0
    refine ⟨rfl, ?_, ?_⟩
    · exact Ob.cast (((HB.out.set 3 _).set 2 _).set 4 _).drew (by rfl)
    · repeat (first | (with_reducible refine (Kept.drewR ?_)) | (with_reducible refine (Kept.dnR ?_ _)) | (with_reducible refine (Kept.setO ?_)) | exact (Kept.refl _ _))
  · have HA := Lib.hid (show s.aggr = s.a from if_neg hn)
    unfold Cr.risen
    rw [HA.out]
    go_enter Try.func22, Try.ntmps22
    go_wp2_with fail
    refine region_tail 21 (by kernel_rfl) (by kernel_rfl) ?_
    simp only [List.take_succ_cons, List.take_zero, List.drop_succ_cons, List.drop_zero]
    repeat (first | still_step | still_call (still (by_any _ _ _)) | still_call (still (plus_any _ _ _)))
    refine wpStill_nil ?_
    go_wp2
    go_end0
    refine ⟨rfl, ?_, ?_⟩
    · exact Ob.cast ((HB.out.set 2 _).set 4 _).drew (by rfl)
    · repeat (first | (with_reducible refine (Kept.drewR ?_)) | (with_reducible refine (Kept.dnR ?_ _)) | (with_reducible refine (Kept.setO ?_)) | exact (Kept.refl _ _))
set_option maxHeartbeats 1000000 in
theorem up_any (b : Nat) (s : Cr) (k x y : Int) (w : World) (h : CrI b s w) (hok : s.ok k) (hk : k ≤ 1000000) : Calls Try.prog 9 #[.pointer (some ⟨b, 0, none⟩), .int .i64 x, .int .i64 y] w (CrPost b (s.up x y) (.int .i64 (s.up x y).r) w) := by
  have HRISE := Lib.hid (fun w' (hb : CrI b s w') => rise_any b s k w' hb hok hk)
  obtain ⟨h1, h2, h3, h4, h5, h6, h7, h8, h9, h10⟩ := hok
  have HB := Lib.hid h
  obtain ⟨lb, c0, c1, c2, c3, c4, fb⟩ := h.at
  clear h
  obtain ⟨s0, s1⟩ := sent_b x
  obtain ⟨l0, l1⟩ := lost_b x y
  have HS := Lib.hid (show clampI x 0 1073741824 = sentI x from rfl)
  have HL := Lib.hid (show clampI y 0 (sentI x) = lostI x y from rfl)
  by_cases hz : sentI x = 0
  · have HU := Lib.hid (show s.up x y = s from if_pos hz)
    have HP := Lib.hid (show partV (lostI x y) (sentI x) = .tuple #[.int .i64 0, .int .i64 1] from if_pos (by omega))
    rw [HU.out]
    clear hz
    go_enter Try.func9, Try.ntmps9
    go_wp2_with fail
    refine (clamp_any _ _ _ _).mono ?_
    rintro e w' ⟨rfl, rfl⟩
    rw [HS.out]
    go_wp2_with fail
    refine (clamp_any _ _ _ _).mono ?_
    rintro e w' ⟨rfl, rfl⟩
    rw [HL.out]
    go_wp2_with fail
    refine (part_any _ _ _).mono ?_
    rintro e w' ⟨rfl, rfl⟩
    rw [HP.out]
    go_wp2_with fail
    go_ret
    exact ⟨rfl, HB.out, Kept.refl _ _⟩
  · obtain ⟨q0, q1⟩ := loss_b x y hz
    have HP := Lib.hid (show partV (lostI x y) (sentI x) = .tuple #[.int .i64 (lossI x y), .int .i64 0] from if_neg (by omega))
    by_cases hle : lossI x y ≤ s.g
    · have HU := Lib.hid (show s.up x y = s.fit (addI (timesI s.aggr s.m) (timesI (65536 - s.aggr) s.r)) s.aggr (s.n + 1) by unfold Cr.up; rw [if_neg hz, if_pos hle])
      rw [HU.out]
      clear hz
      go_enter Try.func9, Try.ntmps9
      go_wp2_with fail
      refine (clamp_any _ _ _ _).mono ?_
      rintro e w' ⟨rfl, rfl⟩
      rw [HS.out]
      go_wp2_with fail
      refine (clamp_any _ _ _ _).mono ?_
      rintro e w' ⟨rfl, rfl⟩
      rw [HL.out]
      go_wp2_with fail
      refine (part_any _ _ _).mono ?_
      rintro e w' ⟨rfl, rfl⟩
      rw [HP.out]
      go_wp2_with fail
      refine (HRISE.out _ HB.out).mono ?_
      rintro e w1 ⟨rfl, hb, hk1⟩
      have HB1 := Lib.hid hb
      clear lb c0 c1 c2 c3 c4 fb
      obtain ⟨lb, c0, c1, c2, c3, c4, fb⟩ := hb.at
      clear hb
      unfold Cr.risen at c0 c1 c2 c3 c4
      go_wp2_with fail
      refine (clampF_any _ _ _ _).mono ?_
      rintro e w' ⟨rfl, rfl⟩
      go_wp2_with fail
      refine region_tail 15 (by kernel_rfl) (by kernel_rfl) ?_
      simp only [List.take_succ_cons, List.take_zero, List.drop_succ_cons, List.drop_zero]
      repeat (first | still_step | still_call (still (clampF_any _ _ _ _)))
      refine wpStill_nil ?_
      go_wp2
      go_ret
      refine ⟨rfl, ?_, ?_⟩
      · exact Ob.cast ((HB1.out.set 3 _).set 2 _).drew (by rfl)
      · repeat (first | (with_reducible refine (Kept.drewR ?_)) | (with_reducible refine (Kept.dnR ?_ _)) | (with_reducible refine (Kept.setO ?_)) | exact (hk1))
    · have HU := Lib.hid (show s.up x y = s.fit (timesI (timesI s.r (65536 - lossI x y)) (65536 + s.g)) (s.a / 2) 0 by unfold Cr.up; rw [if_neg hz, if_neg hle])
      rw [HU.out]
      clear hz
      go_enter Try.func9, Try.ntmps9
      go_wp2_with fail
      refine (clamp_any _ _ _ _).mono ?_
      rintro e w' ⟨rfl, rfl⟩
      rw [HS.out]
      go_wp2_with fail
      refine (clamp_any _ _ _ _).mono ?_
      rintro e w' ⟨rfl, rfl⟩
      rw [HL.out]
      go_wp2_with fail
      refine (part_any _ _ _).mono ?_
      rintro e w' ⟨rfl, rfl⟩
      rw [HP.out]
      go_wp2_with fail
      refine region_tail 14 (by kernel_rfl) (by kernel_rfl) ?_
      simp only [List.take_succ_cons, List.take_zero, List.drop_succ_cons, List.drop_zero]
      repeat (first | still_step | still_call (still (by_any _ _ _)))
      refine wpStill_nil ?_
      go_wp2_with fail
      refine (clampF_any _ _ _ _).mono ?_
      rintro e w' ⟨rfl, rfl⟩
      go_wp2_with fail
      refine region_tail 15 (by kernel_rfl) (by kernel_rfl) ?_
      simp only [List.take_succ_cons, List.take_zero, List.drop_succ_cons, List.drop_zero]
      repeat (first | still_step | still_call (still (clampF_any _ _ _ _)))
      refine wpStill_nil ?_
      go_wp2
      go_ret
      refine ⟨rfl, ?_, ?_⟩
      · exact Ob.cast (((((HB.out.set 2 _).set 3 _).set 4 _).set 3 _).set 2 _).drew.drew (by rfl)
      · repeat (first | (with_reducible refine (Kept.drewR ?_)) | (with_reducible refine (Kept.dnR ?_ _)) | (with_reducible refine (Kept.setO ?_)) | exact (Kept.refl _ _))
set_option maxHeartbeats 2000000 in
theorem up_ref0 (b : Nat) (s : Cr) (k x y : Int) (w : World) (h : CrM b s w) (hok : s.ok k) (_ : k ≤ 1000000) (hz : sentI x = 0) : Calls Try.prog 10 #[.pointer (some ⟨b, 0, none⟩), .int .i64 x, .int .i64 y] w (CrPostM b (s.up x y) (.int .i64 (s.up x y).r) w) := by
  obtain ⟨h1, h2, h3, h4, h5, h6, h7, h8, h9, h10⟩ := hok
  have HB := Lib.hid h
  obtain ⟨lb, c0, c1, c2, c3, c4, c5, fb⟩ := h.at
  clear h
  obtain ⟨s0, s1⟩ := sent_b x
  obtain ⟨l0, l1⟩ := lost_b x y
  have HS := Lib.hid (show clampI x 0 1073741824 = sentI x from rfl)
  have HL := Lib.hid (show clampI y 0 (sentI x) = lostI x y from rfl)
  have HU := Lib.hid (show s.up x y = s from if_pos hz)
  have hz1 : (sentI x == 0) = true := by simpa using hz
  rw [HU.out]
  clear hz
  go_enter Try.func10, Try.ntmps10
  go_wp2_with fail
  refine (clamp_ref _ _ _ _).mono ?_
  rintro e w' ⟨rfl, rfl⟩
  rw [HS.out]
  go_wp2_with fail
  refine (clamp_ref _ _ _ _).mono ?_
  rintro e w' ⟨rfl, rfl⟩
  rw [HL.out]
  go_wp2_with fail
  go_ret
  exact ⟨rfl, HB.out, Kept.refl _ _⟩
set_option maxHeartbeats 8000000 in
theorem up_ref1 (b : Nat) (s : Cr) (k x y : Int) (w : World) (h : CrM b s w) (hok : s.ok k) (hk : k ≤ 1000000) (hz : sentI x ≠ 0) (hle : lossI x y ≤ s.g) (hn : 0 < s.n) : Calls Try.prog 10 #[.pointer (some ⟨b, 0, none⟩), .int .i64 x, .int .i64 y] w (CrPostM b (s.up x y) (.int .i64 (s.up x y).r) w) := by
  have hag := aggr_b hok
  obtain ⟨h1, h2, h3, h4, h5, h6, h7, h8, h9, h10⟩ := hok
  have HB := Lib.hid h
  obtain ⟨lb, c0, c1, c2, c3, c4, c5, fb⟩ := h.at
  clear h
  obtain ⟨s0, s1⟩ := sent_b x
  obtain ⟨l0, l1⟩ := lost_b x y
  have HS := Lib.hid (show clampI x 0 1073741824 = sentI x from rfl)
  have HL := Lib.hid (show clampI y 0 (sentI x) = lostI x y from rfl)
  obtain ⟨q0, q1⟩ := loss_b x y hz
  have hz1 : (sentI x == 0) = false := by simpa using hz
  have HP := Lib.hid (show partV (lostI x y) (sentI x) = .tuple #[.int .i64 (lossI x y), .int .i64 0] from if_neg (by omega))
  have HU := Lib.hid (show s.up x y = s.fit (addI (timesI s.aggr s.m) (timesI (65536 - s.aggr) s.r)) s.aggr (s.n + 1) by unfold Cr.up; rw [if_neg hz, if_pos hle])
  have HN := Lib.hid (show decide (0 < s.n + 1) = true by simp; omega)
  rw [HU.out]
  have HA := Lib.hid (show s.aggr = (s.a + 32768) / 2 from if_pos hn)
  rw [HA.out] at hag ⊢
  clear hz
  go_enter Try.func10, Try.ntmps10
  go_wp2_with fail
  refine (clamp_ref _ _ _ _).mono ?_
  rintro e w' ⟨rfl, rfl⟩
  rw [HS.out]
  go_wp2_with fail
  refine (clamp_ref _ _ _ _).mono ?_
  rintro e w' ⟨rfl, rfl⟩
  rw [HL.out]
  go_wp2_with fail
  refine (part_ref _ _ _).mono ?_
  rintro e w' ⟨rfl, rfl⟩
  rw [HP.out]
  go_wp2_with fail
  refine region_tail 21 (by kernel_rfl) (by kernel_rfl) ?_
  simp only [List.take_succ_cons, List.take_zero, List.drop_succ_cons, List.drop_zero]
  repeat (first | still_step | still_call (still (by_ref _ _ _)) | still_call (still (plus_ref _ _ _)))
  refine wpStill_nil ?_
  generalize (s.a + 32768) / 2 = q at *
  go_wp2_with fail
  refine region_tail 15 (by kernel_rfl) (by kernel_rfl) ?_
  simp only [List.take_succ_cons, List.take_zero, List.drop_succ_cons, List.drop_zero]
  repeat (first | still_step | still_call (still (clamp_ref _ _ _ _)))
  refine wpStill_nil ?_
  go_wp2_with fail
  refine (clamp_ref _ _ _ _).mono ?_
  rintro e w3 ⟨rfl, hw⟩
  have HB3 : Hid (Ob w3 b #[.int .i64 s.m, .int .i64 s.g, .int .i64 (clampI (addI (timesI q s.m) (timesI (65536 - q) s.r)) (s.m / 64) s.m), .int .i64 q, .int .i64 (s.n + 1), .bool true] 38) := Lib.hid (by rw [← hw]; exact Ob.cast (((((HB.out.set 3 _).set 2 _).set 5 _).set 4 _).set 2 _).drew.drew (by rfl))
  have HK3 : Hid (Kept (Only b) w w3) := Lib.hid (by rw [← hw]; exact ((Kept.refl _ _).setO.setO.setO.setO.setO).drewR.drewR)
  clear hw lb c0 c1 c2 c3 c4 c5 fb
  obtain ⟨lb, cc, fb⟩ := HB3.out.blk
  go_wp2
  go_ret
  refine ⟨rfl, ?_, ?_⟩
  · unfold CrM Cr.cM Cr.fit
    simp only [HN.out]
    exact Ob.cast (HB3.out.set 3 _) (by rfl)
  · repeat (first | (with_reducible refine (Kept.drewR ?_)) | (with_reducible refine (Kept.dnR ?_ _)) | (with_reducible refine (Kept.setO ?_)) | exact (HK3.out))
set_option maxHeartbeats 2000000 in
theorem up_ref2 (b : Nat) (s : Cr) (k x y : Int) (w : World) (h : CrM b s w) (hok : s.ok k) (_ : k ≤ 1000000) (hz : sentI x ≠ 0) (hle : lossI x y ≤ s.g) (hn : ¬ 0 < s.n) : Calls Try.prog 10 #[.pointer (some ⟨b, 0, none⟩), .int .i64 x, .int .i64 y] w (CrPostM b (s.up x y) (.int .i64 (s.up x y).r) w) := by
  have hag := aggr_b hok
  obtain ⟨h1, h2, h3, h4, h5, h6, h7, h8, h9, h10⟩ := hok
  have HB := Lib.hid h
  obtain ⟨lb, c0, c1, c2, c3, c4, c5, fb⟩ := h.at
  clear h
  obtain ⟨s0, s1⟩ := sent_b x
  obtain ⟨l0, l1⟩ := lost_b x y
  have HS := Lib.hid (show clampI x 0 1073741824 = sentI x from rfl)
  have HL := Lib.hid (show clampI y 0 (sentI x) = lostI x y from rfl)
  obtain ⟨q0, q1⟩ := loss_b x y hz
  have hz1 : (sentI x == 0) = false := by simpa using hz
  have HP := Lib.hid (show partV (lostI x y) (sentI x) = .tuple #[.int .i64 (lossI x y), .int .i64 0] from if_neg (by omega))
  have HU := Lib.hid (show s.up x y = s.fit (addI (timesI s.aggr s.m) (timesI (65536 - s.aggr) s.r)) s.aggr (s.n + 1) by unfold Cr.up; rw [if_neg hz, if_pos hle])
  have HN := Lib.hid (show decide (0 < s.n + 1) = true by simp; omega)
  rw [HU.out]
  have HA := Lib.hid (show s.aggr = s.a from if_neg hn)
  rw [HA.out] at hag ⊢
  clear hz
  go_enter Try.func10, Try.ntmps10
  go_wp2_with fail
  refine (clamp_ref _ _ _ _).mono ?_
  rintro e w' ⟨rfl, rfl⟩
  rw [HS.out]
  go_wp2_with fail
  refine (clamp_ref _ _ _ _).mono ?_
  rintro e w' ⟨rfl, rfl⟩
  rw [HL.out]
  go_wp2_with fail
  refine (part_ref _ _ _).mono ?_
  rintro e w' ⟨rfl, rfl⟩
  rw [HP.out]
  go_wp2_with fail
  refine region_tail 21 (by kernel_rfl) (by kernel_rfl) ?_
  simp only [List.take_succ_cons, List.take_zero, List.drop_succ_cons, List.drop_zero]
  repeat (first | still_step | still_call (still (by_ref _ _ _)) | still_call (still (plus_ref _ _ _)))
  refine wpStill_nil ?_
  go_wp2_with fail
  refine region_tail 15 (by kernel_rfl) (by kernel_rfl) ?_
  simp only [List.take_succ_cons, List.take_zero, List.drop_succ_cons, List.drop_zero]
  repeat (first | still_step | still_call (still (clamp_ref _ _ _ _)))
  refine wpStill_nil ?_
  go_wp2_with fail
  refine (clamp_ref _ _ _ _).mono ?_
  rintro e w' ⟨rfl, rfl⟩
  go_wp2
  go_ret
  refine ⟨rfl, ?_, ?_⟩
  · unfold CrM Cr.cM Cr.fit
    simp only [HN.out]
    exact Ob.cast (((((HB.out.set 2 _).set 5 _).set 4 _).set 2 _).set 3 _).drew.drew (by rfl)
  · repeat (first | (with_reducible refine (Kept.drewR ?_)) | (with_reducible refine (Kept.dnR ?_ _)) | (with_reducible refine (Kept.setO ?_)) | exact (Kept.refl _ _))
set_option maxHeartbeats 2000000 in
theorem up_ref3 (b : Nat) (s : Cr) (k x y : Int) (w : World) (h : CrM b s w) (hok : s.ok k) (_ : k ≤ 1000000) (hz : sentI x ≠ 0) (hle : ¬ lossI x y ≤ s.g) : Calls Try.prog 10 #[.pointer (some ⟨b, 0, none⟩), .int .i64 x, .int .i64 y] w (CrPostM b (s.up x y) (.int .i64 (s.up x y).r) w) := by
  obtain ⟨h1, h2, h3, h4, h5, h6, h7, h8, h9, h10⟩ := hok
  have HB := Lib.hid h
  obtain ⟨lb, c0, c1, c2, c3, c4, c5, fb⟩ := h.at
  clear h
  obtain ⟨s0, s1⟩ := sent_b x
  obtain ⟨l0, l1⟩ := lost_b x y
  have HS := Lib.hid (show clampI x 0 1073741824 = sentI x from rfl)
  have HL := Lib.hid (show clampI y 0 (sentI x) = lostI x y from rfl)
  obtain ⟨q0, q1⟩ := loss_b x y hz
  have hz1 : (sentI x == 0) = false := by simpa using hz
  have HP := Lib.hid (show partV (lostI x y) (sentI x) = .tuple #[.int .i64 (lossI x y), .int .i64 0] from if_neg (by omega))
  have HU := Lib.hid (show s.up x y = s.fit (timesI (timesI s.r (65536 - lossI x y)) (65536 + s.g)) (s.a / 2) 0 by unfold Cr.up; rw [if_neg hz, if_neg hle])
  rw [HU.out]
  clear hz
  go_enter Try.func10, Try.ntmps10
  go_wp2_with fail
  refine (clamp_ref _ _ _ _).mono ?_
  rintro e w' ⟨rfl, rfl⟩
  rw [HS.out]
  go_wp2_with fail
  refine (clamp_ref _ _ _ _).mono ?_
  rintro e w' ⟨rfl, rfl⟩
  rw [HL.out]
  go_wp2_with fail
  refine (part_ref _ _ _).mono ?_
  rintro e w' ⟨rfl, rfl⟩
  rw [HP.out]
  go_wp2_with fail
  refine region_tail 14 (by kernel_rfl) (by kernel_rfl) ?_
  simp only [List.take_succ_cons, List.take_zero, List.drop_succ_cons, List.drop_zero]
  repeat (first | still_step | still_call (still (by_ref _ _ _)))
  refine wpStill_nil ?_
  go_wp2_with fail
  refine region_tail 15 (by kernel_rfl) (by kernel_rfl) ?_
  simp only [List.take_succ_cons, List.take_zero, List.drop_succ_cons, List.drop_zero]
  repeat (first | still_step | still_call (still (clamp_ref _ _ _ _)))
  refine wpStill_nil ?_
  go_wp2_with fail
  refine (clamp_ref _ _ _ _).mono ?_
  rintro e w' ⟨rfl, rfl⟩
  go_wp2
  go_ret
  refine ⟨rfl, ?_, ?_⟩
  · exact Ob.cast ((((((HB.out.set 2 _).set 3 _).set 5 _).set 4 _).set 2 _).set 3 _).drew.drew (by rfl)
  · repeat (first | (with_reducible refine (Kept.drewR ?_)) | (with_reducible refine (Kept.dnR ?_ _)) | (with_reducible refine (Kept.setO ?_)) | exact (Kept.refl _ _))
theorem up_ref (b : Nat) (s : Cr) (k x y : Int) (w : World) (h : CrM b s w) (hok : s.ok k) (hk : k ≤ 1000000) : Calls Try.prog 10 #[.pointer (some ⟨b, 0, none⟩), .int .i64 x, .int .i64 y] w (CrPostM b (s.up x y) (.int .i64 (s.up x y).r) w) := by
  by_cases hz : sentI x = 0
  · exact up_ref0 b s k x y w h hok hk hz
  · by_cases hle : lossI x y ≤ s.g
    · by_cases hn : 0 < s.n
      · exact up_ref1 b s k x y w h hok hk hz hle hn
      · exact up_ref2 b s k x y w h hok hk hz hle hn
    · exact up_ref3 b s k x y w h hok hk hz hle
end Go.Proofs.Ytocopgmbfmechaa
