/- Contracts of bucket (chapter 3) and of the reference's bucket. -/
import Derived.Test.YtjcopbfonbbaiaaNum
import Derived.Test.YtjcopbfonbbaiaaObj
namespace Go.Proofs.Ytjcopbfonbbaiaa
open Go.RowKit

/-- a bucket: rate, depth, level, time -/
structure Bk where
  r : Int
  d : Int
  l : Int
  t : Int
def Bk.cI (s : Bk) : Array Value := #[.int .i64 s.r, .int .i64 s.d, .int .i64 s.l, .int .i64 s.t]
def Bk.cM (s : Bk) : Array Value := #[.int .i64 s.r, .int .i64 s.d, .int .i64 s.t, .int .i64 s.l]
structure Bk.ok (s : Bk) : Prop where
  r0 : 0 ≤ s.r
  r1 : s.r ≤ 17179869184
  d0 : 1 ≤ s.d
  d1 : s.d ≤ 1073741824
  l0 : 0 ≤ s.l
  l1 : s.l ≤ s.d * 65536
  t0 : 0 ≤ s.t
  t1 : s.t ≤ 1125899906842624
def tick (t now : Int) : Int := max t (min now 1125899906842624)
def Bk.lev (s : Bk) (now : Int) : Int := min (s.d * 65536) (addI s.l (mulI s.r (tick s.t now - s.t)))
def Bk.on (s : Bk) (now : Int) : Bk := ⟨s.r, s.d, s.lev now, tick s.t now⟩
theorem mulI_b (a b : Int) : 0 ≤ mulI a b ∧ mulI a b ≤ 1125899906842624 := by
  have := Int.mul_nonneg (hold_b a).1 (hold_b b).1
  unfold mulI; omega
theorem addI_b (a b : Int) : 0 ≤ addI a b ∧ addI a b ≤ 1125899906842624 := hold_b _
theorem clamp_tick (t now : Int) (h : t ≤ 1125899906842624) : clampI now t 1125899906842624 = tick t now := by
  unfold clampI tick
  split
  · omega
  · split <;> omega
theorem tick_b (t now : Int) (h0 : 0 ≤ t) (h : t ≤ 1125899906842624) : t ≤ tick t now ∧ tick t now ≤ 1125899906842624 := by unfold tick; omega
theorem tick_tick (t now : Int) : tick (tick t now) now = tick t now := by unfold tick; omega
theorem ofI_in (n : Int) (h0 : 0 ≤ n) (h : n ≤ 17179869184) : ofI n = n * 65536 := by
  unfold ofI clampI; rw [if_neg (by omega), if_neg (by omega)]
theorem Bk.on_ok {s : Bk} (h : s.ok) (now : Int) : (s.on now).ok := by
  obtain ⟨h1, h2, h3, h4, h5, h6, h7, h8⟩ := h
  have := tick_b s.t now h7 h8
  have := addI_b s.l (mulI s.r (tick s.t now - s.t))
  exact ⟨h1, h2, h3, h4, by show 0 ≤ s.lev now; unfold Bk.lev; omega, by show s.lev now ≤ s.d * 65536; unfold Bk.lev; omega, by show 0 ≤ tick s.t now; omega, by show tick s.t now ≤ _; omega⟩
theorem Bk.on_on {s : Bk} (h : s.ok) (now : Int) : (s.on now).on now = s.on now := by
  have h2 := Bk.on_ok h now
  have e1 : tick (s.on now).t now = (s.on now).t := tick_tick s.t now
  have e2 : (s.on now).lev now = (s.on now).l := by
    unfold Bk.lev
    rw [e1, Int.sub_self]
    have e3 : mulI (s.on now).r 0 = 0 := by unfold mulI; rw [hold_id 0 (by decide) (by decide), Int.mul_zero]; rfl
    have := h2.l0; have := h2.l1; have := h2.d1
    rw [e3]; unfold addI
    rw [hold_id (s.on now).l (by omega) (by omega), hold_id 0 (by decide) (by decide), Int.add_zero, hold_id (s.on now).l (by omega) (by omega)]
    omega
  show (⟨(s.on now).r, (s.on now).d, (s.on now).lev now, tick (s.on now).t now⟩ : Bk) = s.on now
  rw [e1, e2]
def BkI (b : Nat) (s : Bk) (w : World) : Prop := Ob w b s.cI 53
def BkM (b : Nat) (s : Bk) (w : World) : Prop := Ob w b s.cM 59
theorem BkI.at {b : Nat} {s : Bk} {w : World} (h : BkI b s w) : b < w.heap.size ∧ w.cell? ⟨b, 0, none⟩ = some (.int .i64 s.r) ∧ w.cell? ⟨b, 1, none⟩ = some (.int .i64 s.d) ∧ w.cell? ⟨b, 2, none⟩ = some (.int .i64 s.l) ∧ w.cell? ⟨b, 3, none⟩ = some (.int .i64 s.t) ∧ ∀ i, w.frozen? ⟨b, i, none⟩ = false := by
  obtain ⟨h1, h2, h3⟩ := Ob.blk h
  exact ⟨h1, h2 0, h2 1, h2 2, h2 3, h3⟩
theorem BkM.at {b : Nat} {s : Bk} {w : World} (h : BkM b s w) : b < w.heap.size ∧ w.cell? ⟨b, 0, none⟩ = some (.int .i64 s.r) ∧ w.cell? ⟨b, 1, none⟩ = some (.int .i64 s.d) ∧ w.cell? ⟨b, 3, none⟩ = some (.int .i64 s.l) ∧ w.cell? ⟨b, 2, none⟩ = some (.int .i64 s.t) ∧ ∀ i, w.frozen? ⟨b, i, none⟩ = false := by
  obtain ⟨h1, h2, h3⟩ := Ob.blk h
  exact ⟨h1, h2 0, h2 1, h2 3, h2 2, h3⟩

def GoesPost (b : Nat) (s : Bk) (v : Value) (w : World) (e : Ending) (w' : World) : Prop := e = .returned v ∧ BkI b s w' ∧ Kept (Only b) w w'
def GoesPostM (b : Nat) (s : Bk) (v : Value) (w : World) (e : Ending) (w' : World) : Prop := e = .returned v ∧ BkM b s w' ∧ Kept (Only b) w w'
theorem of_in (n : Int) (w : World) (h0 : 0 ≤ n) (h : n ≤ 17179869184) : Calls Try.prog 22 #[.int .i64 n] w fun e w' => e = .returned (.int .i64 (n * 65536)) ∧ w = w' := by
  rw [← ofI_in n h0 h]; exact of_any n w
set_option maxHeartbeats 400000 in
theorem goes_any (b : Nat) (s : Bk) (now : Int) (w : World) (h : BkI b s w) (hok : s.ok) : Calls Try.prog 23 #[.pointer (some ⟨b, 0, none⟩), .int .i64 now] w (GoesPost b (s.on now) (.tuple #[]) w) := by
  obtain ⟨h1, h2, h3, h4, h5, h6, h7, h8⟩ := hok
  have ht := tick_b s.t now h7 h8
  have HB := Lib.hid h
  obtain ⟨lb, c0, c1, c2, c3, fb⟩ := h.at
  clear h
  go_enter Try.func23, Try.ntmps23
  go_wp2_with (go_at_call 25; refine (clamp_any _ _ _ _).mono ?_; rintro e w' ⟨rfl, rfl⟩; rw [clamp_tick _ _ h8])
  refine region_tail 23 (by kernel_rfl) (by kernel_rfl) ?_
  simp only [List.take_succ_cons, List.take_zero, List.drop_succ_cons, List.drop_zero]
  repeat (first | still_step | still_call (still (of_in _ _ (by omega) (by omega))) | still_call (still (mul_any _ _ _)) | still_call (still (plus_any _ _ _)))
  refine wpStill_nil ?_
  go_wp2
  go_end0
  exact ⟨rfl, (((HB.out).set 3 _).set 2 _).drew, ((Kept.refl _ _).setO.setO).drewR⟩
theorem has_any (b : Nat) (s : Bk) (now : Int) (w : World) (h : BkI b s w) (hok : s.ok) : Calls Try.prog 9 #[.pointer (some ⟨b, 0, none⟩), .int .i64 now] w (GoesPost b (s.on now) (.int .i64 ((s.on now).l / 65536)) w) := by
  have hk := Bk.on_ok hok now
  have HG := Lib.hid (goes_any b s now w h hok)
  obtain ⟨h1, h2, h3, h4, h5, h6, h7, h8⟩ := hk
  have HH := Lib.hid (hold_id (s.on now).l h5 (by omega))
  clear h hok
  go_enter Try.func9, Try.ntmps9
  go_wp2_with fail
  refine HG.out.mono ?_
  rintro e w1 ⟨rfl, hb, hk⟩
  have HB := Lib.hid hb
  obtain ⟨lb, c0, c1, c2, c3, fb⟩ := hb.at
  clear hb
  go_wp2_with fail
  refine (int_any _ _).mono ?_
  rintro e w2 ⟨rfl, rfl⟩
  rw [HH.out]
  go_wp2_with fail
  go_ret
  exact ⟨rfl, HB.out, hk⟩
def Bk.can (s : Bk) (now n : Int) : Bool := decide (0 ≤ n) && decide (n ≤ (s.on now).l / 65536)
def Bk.take (s : Bk) (now n : Int) : Bk := if s.can now n = true then ⟨(s.on now).r, (s.on now).d, (s.on now).l - n * 65536, (s.on now).t⟩ else s.on now
theorem Bk.take_ok {s : Bk} (h : s.ok) (now n : Int) : (s.take now n).ok := by
  have hk := Bk.on_ok h now
  unfold Bk.take
  split
  · rename_i hc
    simp only [Bk.can, Bool.and_eq_true, decide_eq_true_eq] at hc
    obtain ⟨h1, h2, h3, h4, h5, h6, h7, h8⟩ := hk
    exact ⟨h1, h2, h3, h4, by show 0 ≤ (s.on now).l - n * 65536; omega, by show (s.on now).l - n * 65536 ≤ (s.on now).d * 65536; omega, h7, h8⟩
  · exact hk
set_option maxHeartbeats 400000 in
theorem take_any (b : Nat) (s : Bk) (now n : Int) (w : World) (h : BkI b s w) (hok : s.ok) : Calls Try.prog 8 #[.pointer (some ⟨b, 0, none⟩), .int .i64 now, .int .i64 n] w (GoesPost b (s.take now n) (.bool (s.can now n)) w) := by
  have HG := Lib.hid (has_any b s now w h hok)
  have hk := Bk.on_ok hok now
  obtain ⟨h1, h2, h3, h4, h5, h6, h7, h8⟩ := hk
  by_cases hc : 0 ≤ n ∧ n ≤ (s.on now).l / 65536
  · have he : s.can now n = true := by simp [Bk.can, hc.1, hc.2]
    have hs : s.take now n = ⟨(s.on now).r, (s.on now).d, (s.on now).l - n * 65536, (s.on now).t⟩ := by unfold Bk.take; rw [if_pos he]
    rw [he, hs]
    obtain ⟨n0, n1⟩ := hc
    clear h hok hs he
    go_enter Try.func8, Try.ntmps8
    go_wp2_with fail
    refine HG.out.mono ?_
    rintro e w1 ⟨rfl, hb, hk⟩
    have HB := Lib.hid hb
    obtain ⟨lb, c0, c1, c2, c3, fb⟩ := hb.at
    clear hb
    go_wp2_with fail
    refine region_tail 7 (by kernel_rfl) (by kernel_rfl) ?_
    simp only [List.take_succ_cons, List.take_zero, List.drop_succ_cons, List.drop_zero]
    repeat (first | still_step | still_call (still (of_in _ _ (by omega) (by omega))))
    refine wpStill_nil ?_
    go_wp2
    go_ret
    exact ⟨rfl, (HB.out.set 2 _).drew, hk.setO.drewR⟩
  · have he : s.can now n = false := by simp [Bk.can]; omega
    have hs : s.take now n = s.on now := by unfold Bk.take; rw [he]; rfl
    rw [he, hs]
    clear h hok hs he
    by_cases n0 : n < 0
    all_goals
      go_enter Try.func8, Try.ntmps8
      go_wp2_with fail
      refine HG.out.mono ?_
      rintro e w1 ⟨rfl, hb, hk⟩
      go_wp2_with fail
      go_ret
      exact ⟨rfl, hb, hk⟩

def Bk.whenI (s : Bk) (now n : Int) : Int := if n < 0 ∨ s.d < n then 1125899906842624 else if n * 65536 - (s.on now).l ≤ 0 then (s.on now).t else if s.r = 0 then 1125899906842624 else addI (s.on now).t ((n * 65536 - (s.on now).l + s.r - 1) / s.r)
theorem ofI_b (n : Int) : 0 ≤ ofI n ∧ ofI n ≤ 1125899906842624 := by
  have := clamp34 n
  unfold ofI; omega
theorem Bk.on_r (s : Bk) (now : Int) : (s.on now).r = s.r := rfl
theorem Bk.on_d (s : Bk) (now : Int) : (s.on now).d = s.d := rfl
theorem Bk.rate_ok {s : Bk} (h : s.ok) (x : Int) : (⟨clampI x 0 17179869184, s.d, s.l, s.t⟩ : Bk).ok := by
  obtain ⟨h1, h2, h3, h4, h5, h6, h7, h8⟩ := h
  have := clamp34 x
  exact ⟨this.1, this.2, h3, h4, h5, h6, h7, h8⟩
def Bk.rate (s : Bk) (now x : Int) : Bk := ⟨clampI x 0 17179869184, (s.on now).d, (s.on now).l, (s.on now).t⟩
set_option maxHeartbeats 1000000 in
theorem when_any (b : Nat) (s : Bk) (now n : Int) (w : World) (h : BkI b s w) (hok : s.ok) : Calls Try.prog 15 #[.pointer (some ⟨b, 0, none⟩), .int .i64 now, .int .i64 n] w (GoesPost b (s.on now) (.int .i64 (s.whenI now n)) w) := by
  have HG := Lib.hid (goes_any b s now w h hok)
  have hk := Bk.on_ok hok now
  obtain ⟨h1, h2, h3, h4, h5, h6, h7, h8⟩ := hk
  clear h
  by_cases hc : n < 0 ∨ s.d < n
  · have he : s.whenI now n = 1125899906842624 := by unfold Bk.whenI; rw [if_pos hc]
    rw [he]
    clear he
    obtain ⟨o1, o2⟩ := ofI_b n
    have hc2 : n < 0 ∨ (0 ≤ n ∧ (s.on now).d < n) := by rw [Bk.on_d]; omega
    clear hc hok
    rcases hc2 with hc | ⟨hc, hc2⟩
    all_goals
      go_enter Try.func15, Try.ntmps15
      go_wp2_with fail
      refine (HG.out).mono ?_
      rintro e w1 ⟨rfl, hb, hk⟩
      have HB := Lib.hid hb
      obtain ⟨lb, c0, c1, c2, c3, fb⟩ := hb.at
      clear hb
      go_wp2_with fail
      go_quiet (first | (go_at_call 22; exact quietS (of_any _ _)) | (go_at_call 22; exact quietA (of_any _ _)))
      go_wp2_with fail
      go_ret
      exact ⟨rfl, HB.out.dn, hk.dnR _⟩
  · have hn : 0 ≤ n ∧ n ≤ (s.on now).d := by rw [Bk.on_d]; omega
    have hw : s.whenI now n = if n * 65536 - (s.on now).l ≤ 0 then (s.on now).t else if s.r = 0 then 1125899906842624 else addI (s.on now).t ((n * 65536 - (s.on now).l + s.r - 1) / s.r) := by unfold Bk.whenI; rw [if_neg hc]
    obtain ⟨n0, n1⟩ := hn
    clear hc
    by_cases hl : n * 65536 - (s.on now).l ≤ 0
    · rw [hw, if_pos hl]
      clear hw hok
      go_enter Try.func15, Try.ntmps15
      go_wp2_with fail
      refine (HG.out).mono ?_
      rintro e w1 ⟨rfl, hb, hk⟩
      have HB := Lib.hid hb
      obtain ⟨lb, c0, c1, c2, c3, fb⟩ := hb.at
      clear hb
      go_wp2_with fail
      go_quiet (first | (go_at_call 22; exact quietS (of_in _ _ (by omega) (by omega))) | (go_at_call 22; exact quietA (of_in _ _ (by omega) (by omega))))
      go_wp2_with fail
      go_ret
      exact ⟨rfl, HB.out.dn, hk.dnR _⟩
    · by_cases hr : s.r = 0
      · rw [hw, if_neg hl, if_pos hr]
        have hr2 : ((s.on now).r == 0) = true := by rw [Bk.on_r, hr]; rfl
        clear hw hok hr
        go_enter Try.func15, Try.ntmps15
        go_wp2_with fail
        refine (HG.out).mono ?_
        rintro e w1 ⟨rfl, hb, hk⟩
        have HB := Lib.hid hb
        obtain ⟨lb, c0, c1, c2, c3, fb⟩ := hb.at
        clear hb
        go_wp2_with fail
        go_quiet (first | (go_at_call 22; exact quietS (of_in _ _ (by omega) (by omega))) | (go_at_call 22; exact quietA (of_in _ _ (by omega) (by omega))))
        go_wp2_with fail
        go_ret
        exact ⟨rfl, HB.out.dn, hk.dnR _⟩
      · rw [hw, if_neg hl, if_neg hr]
        have hr1 : ((s.on now).r == 0) = false := by rw [Bk.on_r]; simpa using hr
        have hr2 : 1 ≤ (s.on now).r := by rw [Bk.on_r] at h1 ⊢; omega
        rw [← Bk.on_r s now]
        clear hw hok hr
        go_enter Try.func15, Try.ntmps15
        go_wp2_with fail
        refine (HG.out).mono ?_
        rintro e w1 ⟨rfl, hb, hk⟩
        have HB := Lib.hid hb
        obtain ⟨lb, c0, c1, c2, c3, fb⟩ := hb.at
        clear hb
        go_wp2_with fail
        go_quiet (first | (go_at_call 22; exact quietS (of_in _ _ (by omega) (by omega))) | (go_at_call 22; exact quietA (of_in _ _ (by omega) (by omega))))
        go_wp2_with fail
        go_quiet (first | (go_at_call 27; exact quietS (add_any _ _ _)) | (go_at_call 27; exact quietA (add_any _ _ _)))
        go_wp2_with fail
        go_ret
        exact ⟨rfl, HB.out.dn.dn, (hk.dnR _).dnR _⟩
set_option maxHeartbeats 400000 in
theorem setRate_any (b : Nat) (s : Bk) (now x : Int) (w : World) (h : BkI b s w) (hok : s.ok) : Calls Try.prog 19 #[.pointer (some ⟨b, 0, none⟩), .int .i64 now, .int .i64 x] w (GoesPost b (s.rate now x) (.tuple #[]) w) := by
  have HG := Lib.hid (goes_any b s now w h hok)
  clear h hok
  go_enter Try.func19, Try.ntmps19
  go_wp2_with fail
  refine (HG.out).mono ?_
  rintro e w1 ⟨rfl, hb, hk⟩
  have HB := Lib.hid hb
  obtain ⟨lb, c0, c1, c2, c3, fb⟩ := hb.at
  clear hb
  go_wp2_with fail
  refine (clampF_any _ _ _ _).mono ?_
  rintro e w2 ⟨rfl, rfl⟩
  go_wp2_with fail
  go_end0
  exact ⟨rfl, HB.out.set 0 _, hk.setO⟩
def newOk (r d : Int) : Prop := 0 ≤ r ∧ r ≤ 17179869184 ∧ 1 ≤ d ∧ d ≤ 1073741824
def full (r d : Int) : Bk := ⟨r, d, d * 65536, 0⟩
theorem full_ok {r d : Int} (h : newOk r d) : (full r d).ok := by
  obtain ⟨h1, h2, h3, h4⟩ := h
  exact ⟨h1, h2, h3, h4, by show 0 ≤ d * 65536; omega, by show d * 65536 ≤ d * 65536; omega, by show (0 : Int) ≤ 0; omega, by show (0 : Int) ≤ 1125899906842624; omega⟩
def NewPost (r d : Int) (w : World) (e : Ending) (w' : World) : Prop := e = .returned (.tuple #[.pointer (some ⟨w.heap.size, 0, none⟩), .int .i64 0]) ∧ BkI w.heap.size (full r d) w' ∧ Below w.heap.size w w'
def NewPostM (r d : Int) (w : World) (e : Ending) (w' : World) : Prop := e = .returned (.tuple #[.pointer (some ⟨w.heap.size, 0, none⟩), .int .i64 0]) ∧ BkM w.heap.size (full r d) w' ∧ Below w.heap.size w w'
theorem new_yes (r d : Int) (w : World) (h : newOk r d) : Calls Try.prog 7 #[.int .i64 r, .int .i64 d] w (NewPost r d w) := by
  obtain ⟨h1, h2, h3, h4⟩ := h
  go_enter Try.func7, Try.ntmps7
  go_wp2_with fail
  refine (of_in _ _ (by omega) (by omega)).mono ?_
  rintro e w2 ⟨rfl, rfl⟩
  go_wp2_with fail
  go_ret2
  exact ⟨rfl, Ob.new _ _ _, (Below.refl _ _).alloc (Nat.le_refl _) _⟩
theorem new_no (r d : Int) (w : World) (h : ¬ newOk r d) : Calls Try.prog 7 #[.int .i64 r, .int .i64 d] w fun e w' => e = .returned (.tuple #[.pointer none, .int .i64 1]) ∧ w = w' := by
  have hc : r < 0 ∨ 17179869184 < r ∨ d < 1 ∨ 1073741824 < d := by unfold newOk at h; omega
  clear h
  rcases hc with h | h | h | h
  all_goals
    go_enter Try.func7, Try.ntmps7
    go_wp2_with fail
    all_goals (go_ret2; exact ⟨rfl, rfl⟩)
theorem newB_yes (r d : Int) (w : World) (h : newOk r d) : Calls Try.prog 16 #[.int .i64 r, .int .i64 d] w (NewPostM r d w) := by
  obtain ⟨h1, h2, h3, h4⟩ := h
  go_enter Try.func16, Try.ntmps16
  go_wp2_with fail
  go_ret2
  exact ⟨rfl, Ob.new _ _ _, (Below.refl _ _).alloc (Nat.le_refl _) _⟩
theorem newB_no (r d : Int) (w : World) (h : ¬ newOk r d) : Calls Try.prog 16 #[.int .i64 r, .int .i64 d] w fun e w' => e = .returned (.tuple #[.pointer none, .int .i64 1]) ∧ w = w' := by
  have hc : r < 0 ∨ 17179869184 < r ∨ d < 1 ∨ 1073741824 < d := by unfold newOk at h; omega
  clear h
  rcases hc with h | h | h | h
  all_goals
    go_enter Try.func16, Try.ntmps16
    go_wp2_with fail
    all_goals (go_ret2; exact ⟨rfl, rfl⟩)
set_option maxHeartbeats 400000 in
theorem goes_ref (b : Nat) (s : Bk) (now : Int) (w : World) (h : BkM b s w) (hok : s.ok) : Calls Try.prog 28 #[.pointer (some ⟨b, 0, none⟩), .int .i64 now] w (GoesPostM b (s.on now) (.tuple #[]) w) := by
  obtain ⟨h1, h2, h3, h4, h5, h6, h7, h8⟩ := hok
  have ht := tick_b s.t now h7 h8
  have HT := Lib.hid (show max s.t (min now 1125899906842624) = tick s.t now from rfl)
  have HB := Lib.hid h
  obtain ⟨lb, c0, c1, c2, c3, fb⟩ := h.at
  clear h
  go_enter Try.func28, Try.ntmps28
  go_wp2_with fail
  rw [HT.out]
  refine region_tail 23 (by kernel_rfl) (by kernel_rfl) ?_
  simp only [List.take_succ_cons, List.take_zero, List.drop_succ_cons, List.drop_zero]
  repeat (first | still_step | still_call (still (mul_ref _ _ _)) | still_call (still (add_ref _ _ _)))
  refine wpStill_nil ?_
  go_wp2
  go_end0
  exact ⟨rfl, ((HB.out.set 3 _).set 2 _).drew, ((Kept.refl _ _).setO.setO).drewR⟩
theorem has_ref (b : Nat) (s : Bk) (now : Int) (w : World) (h : BkM b s w) (hok : s.ok) : Calls Try.prog 21 #[.pointer (some ⟨b, 0, none⟩), .int .i64 now] w (GoesPostM b (s.on now) (.int .i64 ((s.on now).l / 65536)) w) := by
  have hk := Bk.on_ok hok now
  have HG := Lib.hid (goes_ref b s now w h hok)
  obtain ⟨h1, h2, h3, h4, h5, h6, h7, h8⟩ := hk
  clear h hok
  go_enter Try.func21, Try.ntmps21
  go_wp2_with fail
  refine (HG.out).mono ?_
  rintro e w1 ⟨rfl, hb, hk⟩
  have HB := Lib.hid hb
  obtain ⟨lb, c0, c1, c2, c3, fb⟩ := hb.at
  clear hb
  go_wp2_with fail
  go_ret
  exact ⟨rfl, HB.out, hk⟩
set_option maxHeartbeats 400000 in
theorem take_ref (b : Nat) (s : Bk) (now n : Int) (w : World) (h : BkM b s w) (hok : s.ok) : Calls Try.prog 17 #[.pointer (some ⟨b, 0, none⟩), .int .i64 now, .int .i64 n] w (GoesPostM b (s.take now n) (.bool (s.can now n)) w) := by
  have HG := Lib.hid (has_ref b s now w h hok)
  have HN := Lib.hid (goes_ref b s now w h hok)
  have hk := Bk.on_ok hok now
  have HGG : Hid (∀ w1, BkM b (s.on now) w1 → Calls Try.prog 28 #[.pointer (some ⟨b, 0, none⟩), .int .i64 now] w1 (GoesPostM b (s.on now) (.tuple #[]) w1)) :=
    Lib.hid (fun w1 hb => by have := goes_ref b (s.on now) now w1 hb hk; rw [Bk.on_on hok] at this; exact this)
  obtain ⟨h1, h2, h3, h4, h5, h6, h7, h8⟩ := hk
  by_cases hc : 0 ≤ n ∧ n ≤ (s.on now).l / 65536
  · have he : s.can now n = true := by simp [Bk.can, hc.1, hc.2]
    have hs : s.take now n = ⟨(s.on now).r, (s.on now).d, (s.on now).l - n * 65536, (s.on now).t⟩ := by unfold Bk.take; rw [if_pos he]
    rw [he, hs]
    obtain ⟨n0, n1⟩ := hc
    clear h hok hs he
    go_enter Try.func17, Try.ntmps17
    go_wp2_with fail
    refine (HG.out).mono ?_
    rintro e w1 ⟨rfl, hb, hk⟩
    have HB := Lib.hid hb
    obtain ⟨lb, c0, c1, c2, c3, fb⟩ := hb.at
    clear hb
    go_wp2_with fail
    go_ret
    exact ⟨rfl, HB.out.set 3 _, hk.setO⟩
  · have he : s.can now n = false := by simp [Bk.can]; omega
    have hs : s.take now n = s.on now := by unfold Bk.take; rw [he]; rfl
    rw [he, hs]
    clear h hok hs he
    by_cases n0 : n < 0
    · go_enter Try.func17, Try.ntmps17
      go_wp2_with fail
      refine (HN.out).mono ?_
      rintro e w1 ⟨rfl, hb, hk⟩
      go_wp2_with fail
      go_ret
      exact ⟨rfl, hb, hk⟩
    · go_enter Try.func17, Try.ntmps17
      go_wp2_with fail
      refine (HG.out).mono ?_
      rintro e w1 ⟨rfl, hb, hk⟩
      go_wp2_with fail
      refine (HGG.out _ hb).mono ?_
      rintro e w2 ⟨rfl, hb2, hk2⟩
      go_wp2_with fail
      go_ret
      exact ⟨rfl, hb2, hk.trans hk2⟩
set_option maxHeartbeats 1000000 in
theorem when_ref (b : Nat) (s : Bk) (now n : Int) (w : World) (h : BkM b s w) (hok : s.ok) : Calls Try.prog 18 #[.pointer (some ⟨b, 0, none⟩), .int .i64 now, .int .i64 n] w (GoesPostM b (s.on now) (.int .i64 (s.whenI now n)) w) := by
  have HG := Lib.hid (goes_ref b s now w h hok)
  have hk := Bk.on_ok hok now
  obtain ⟨h1, h2, h3, h4, h5, h6, h7, h8⟩ := hk
  clear h
  by_cases hc : n < 0 ∨ s.d < n
  · have he : s.whenI now n = 1125899906842624 := by unfold Bk.whenI; rw [if_pos hc]
    rw [he]
    clear he
    have hc2 : n < 0 ∨ (0 ≤ n ∧ (s.on now).d < n) := by rw [Bk.on_d]; omega
    clear hc hok
    rcases hc2 with hc | ⟨hc, hc2⟩
    all_goals
      go_enter Try.func18, Try.ntmps18
      go_wp2_with fail
      refine (HG.out).mono ?_
      rintro e w1 ⟨rfl, hb, hk⟩
      have HB := Lib.hid hb
      obtain ⟨lb, c0, c1, c2, c3, fb⟩ := hb.at
      clear hb
      go_wp2_with fail
      go_ret
      exact ⟨rfl, HB.out, hk⟩
  · have hn : 0 ≤ n ∧ n ≤ (s.on now).d := by rw [Bk.on_d]; omega
    have hw : s.whenI now n = if n * 65536 - (s.on now).l ≤ 0 then (s.on now).t else if s.r = 0 then 1125899906842624 else addI (s.on now).t ((n * 65536 - (s.on now).l + s.r - 1) / s.r) := by unfold Bk.whenI; rw [if_neg hc]
    obtain ⟨n0, n1⟩ := hn
    clear hc
    by_cases hl : n * 65536 - (s.on now).l ≤ 0
    · rw [hw, if_pos hl]
      clear hw hok
      go_enter Try.func18, Try.ntmps18
      go_wp2_with fail
      refine (HG.out).mono ?_
      rintro e w1 ⟨rfl, hb, hk⟩
      have HB := Lib.hid hb
      obtain ⟨lb, c0, c1, c2, c3, fb⟩ := hb.at
      clear hb
      go_wp2_with fail
      go_ret
      exact ⟨rfl, HB.out, hk⟩
    · by_cases hr : s.r = 0
      · rw [hw, if_neg hl, if_pos hr]
        have hr2 : ((s.on now).r == 0) = true := by rw [Bk.on_r, hr]; rfl
        clear hw hok hr
        go_enter Try.func18, Try.ntmps18
        go_wp2_with fail
        refine (HG.out).mono ?_
        rintro e w1 ⟨rfl, hb, hk⟩
        have HB := Lib.hid hb
        obtain ⟨lb, c0, c1, c2, c3, fb⟩ := hb.at
        clear hb
        go_wp2_with fail
        go_ret
        exact ⟨rfl, HB.out, hk⟩
      · rw [hw, if_neg hl, if_neg hr]
        have hr1 : ((s.on now).r == 0) = false := by rw [Bk.on_r]; simpa using hr
        have hr2 : 1 ≤ (s.on now).r := by rw [Bk.on_r] at h1 ⊢; omega
        rw [← Bk.on_r s now]
        clear hw hok hr
        go_enter Try.func18, Try.ntmps18
        go_wp2_with fail
        refine (HG.out).mono ?_
        rintro e w1 ⟨rfl, hb, hk⟩
        have HB := Lib.hid hb
        obtain ⟨lb, c0, c1, c2, c3, fb⟩ := hb.at
        clear hb
        go_wp2_with fail
        go_quiet (first | (go_at_call 26; exact quietS (add_ref _ _ _)) | (go_at_call 26; exact quietA (add_ref _ _ _)))
        go_wp2_with fail
        go_ret
        exact ⟨rfl, HB.out.dn, hk.dnR _⟩
set_option maxHeartbeats 400000 in
theorem setRate_ref (b : Nat) (s : Bk) (now x : Int) (w : World) (h : BkM b s w) (hok : s.ok) : Calls Try.prog 20 #[.pointer (some ⟨b, 0, none⟩), .int .i64 now, .int .i64 x] w (GoesPostM b (s.rate now x) (.tuple #[]) w) := by
  have HG := Lib.hid (goes_ref b s now w h hok)
  clear h hok
  go_enter Try.func20, Try.ntmps20
  go_wp2_with fail
  refine (HG.out).mono ?_
  rintro e w1 ⟨rfl, hb, hk⟩
  have HB := Lib.hid hb
  obtain ⟨lb, c0, c1, c2, c3, fb⟩ := hb.at
  clear hb
  go_wp2_with fail
  refine (clamp_ref _ _ _ _).mono ?_
  rintro e w2 ⟨rfl, rfl⟩
  go_wp2_with fail
  go_end0
  exact ⟨rfl, HB.out.set 0 _, hk.setO⟩
end Go.Proofs.Ytjcopbfonbbaiaa
