/- Contracts of what several laws share: a number rounded, a sum. -/
import Derived.Test.YtajhndakkaniaaaGreatDoorNum
import Derived.Test.YtajhndakkaniaaaGreatDoorRun
import Derived.Test.YtajhndakkaniaaaGreatDoorTlM
import Derived.Test.YtajhndakkaniaaaGreatDoorTopFM
import Derived.Laws.MakeOwn
namespace Go.Proofs.YtajhndakkaniaaaGreatDoor
open Go.RowKit

theorem tmod_neg (k n : Int) (hk : k < 0) (hn : 0 < n) : (k.tmod n < 0 → k.tmod n + n = k % n) ∧ (¬ k.tmod n < 0 → k.tmod n = k % n) ∧ -n < k.tmod n ∧ k.tmod n < n := by
  have h := Int.tmod_eq_emod (a := k) (b := n)
  have h1 := Int.emod_nonneg k (show n ≠ 0 by omega)
  have h2 := Int.emod_lt_of_pos k hn
  have h3 : (n.natAbs : Int) = n := Int.natAbs_of_nonneg (by omega)
  by_cases hd : n ∣ k
  · rw [if_pos (.inr hd)] at h
    have := Int.emod_eq_zero_of_dvd hd
    omega
  · rw [if_neg (by intro hh; rcases hh with hh | hh; omega; exact hd hh)] at h
    have h5 : k % n ≠ 0 := fun he => hd (Int.dvd_of_emod_eq_zero he)
    omega
theorem round_any (k n : Int) (w : World) (hn : 0 < n) (hn2 : n ≤ 1000000) : Calls Tryz.prog 15 #[.int .i64 k, .int .i64 n] w fun e w' => e = .returned (.int .i64 (k % n)) ∧ w = w' := by
  have hnb : (n == 0) = false := by simp; omega
  by_cases hk : 0 ≤ k
  · have h1 := Int.emod_nonneg k (show n ≠ 0 by omega)
    go_enter Tryz.func15, Tryz.ntmps15
    go_wp2_with fail
    go_ret
    exact ⟨rfl, rfl⟩
  · obtain ⟨h1, h2, h3, h4⟩ := tmod_neg k n (by omega) hn
    by_cases h5 : k.tmod n < 0
    · have H := Lib.hid (h1 h5)
      clear h1 h2
      go_enter Tryz.func15, Tryz.ntmps15
      go_wp2_with fail
      go_ret
      exact ⟨ret_int H.out, rfl⟩
    · have H := Lib.hid (h2 h5)
      clear h1 h2
      go_enter Tryz.func15, Tryz.ntmps15
      go_wp2_with fail
      go_ret
      exact ⟨ret_int H.out, rfl⟩
end Go.Proofs.YtajhndakkaniaaaGreatDoor
/- TopLimits: the two blocks that stand for the config's two numbers. -/
namespace Go.Proofs.YtajhndakkaniaaaGreatDoor
open Go.RowKit

abbrev cfgT (e w b t l : Int) : Value := .agg #[.int .i64 e, .int .i64 2, .int .i64 2, .int .i64 150, .int .i64 w, .int .i64 3, .int .i64 b, .int .i64 1056, .int .i64 4, .int .i64 t, .int .i64 20, .int .i64 40, .int .i64 0, .int .u64 l]
/-- two blocks stand for two numbers -/
theorem two_sr {w0 w : World} (hb : Below w0.heap.size w0 w) (hs : w0.heap.size + 2 ≤ w.heap.size) {T L : Nat} (h1 : 2 ≤ T) (h2 : T ≤ 7) (h3 : 1 ≤ L) (h4 : L ≤ 30) : ∃ φ, Ev.SR Tryz.prog w0.heap.size φ Ev.hp0 w ∧ φ Ev.y0 = some ⟨w0.heap.size, 0, T⟩ ∧ φ Ev.y1 = some ⟨w0.heap.size + 1, 0, L⟩ ∧ ∀ g, w0.heap.size + 2 ≤ g → ¬ Ev.Named Ev.hp0 φ g := by
  have x0 := Ev.Ext.of_below (Ev.sr_nil Tryz.prog w0.heap.size w0) hb
  have none0 : ∀ x o, (Ev.Hp.mk Ev.Tr.nil Ev.Bn.z).t.get x ≠ some o := fun x o ho => by
    rw [show (Ev.Hp.mk Ev.Tr.nil Ev.Bn.z).t.get x = none from Ev.Tr.get_nil x] at ho
    cases ho
  have x1 := x0.adoptP (l := ⟨w0.heap.size, 0, T⟩) (a := .sym 2 7) (Array.getElem?_eq_getElem (by show w0.heap.size < _; omega)) ⟨h1, h2⟩ (Nat.le_refl _) (fun x o k ho => absurd ho (none0 x o)) (Nat.le_refl _)
  have x2 := x1.adoptP (l := ⟨w0.heap.size + 1, 0, L⟩) (a := .sym 1 30) (Array.getElem?_eq_getElem (by show w0.heap.size + 1 < _; omega)) ⟨h3, h4⟩ (by show w0.heap.size ≤ w0.heap.size + 1; omega) (fun x o k ho hk => by
    by_cases e : x = Ev.Bn.z
    · subst e
      rw [Ev.name_same] at hk
      cases hk
      show w0.heap.size ≠ w0.heap.size + 1
      omega
    · rw [Ev.name_other _ _ e] at hk
      cases hk) (Nat.le_refl _)
  refine ⟨_, x2.sr, ?_, Ev.name_same _ _ _, ?_⟩
  · rw [Ev.name_other _ _ (fun h => by cases h)]
    exact Ev.name_same _ _ _
  · rintro g hg ⟨x, o, l, _, hl, he⟩
    have hl : Ev.name (Ev.name (fun _ => none) Ev.Bn.z ⟨w0.heap.size, 0, T⟩) Ev.Bn.z.succ ⟨w0.heap.size + 1, 0, L⟩ x = some l := hl
    by_cases e1 : x = Ev.Bn.succ Ev.Bn.z
    · subst e1
      rw [Ev.name_same] at hl
      cases hl
      have : w0.heap.size + 1 = g := he
      omega
    · rw [Ev.name_other _ _ e1] at hl
      by_cases e2 : x = Ev.Bn.z
      · subst e2
        rw [Ev.name_same] at hl
        cases hl
        have : w0.heap.size = g := he
        omega
      · rw [Ev.name_other _ _ e2] at hl
        cases hl
/-- the config, as memory tells it -/
theorem cfgL_v {φ : Ev.Ren} {a b T L : Nat} (h0 : φ Ev.y0 = some ⟨a, 0, T⟩) (h1 : φ Ev.y1 = some ⟨b, 0, L⟩) (E W Bd : Int) : Ev.tvsV φ [Ev.cfgL E W Bd] = some [cfgT E W Bd T L] := by
  simp only [Ev.tvsV, Ev.cfgL, Ev.tvV, Ev.svV, Ev.cvsV, Ev.cvV, h0, h1, Ev.symV, Int.zero_add]
end Go.Proofs.YtajhndakkaniaaaGreatDoor
/- TopLimits: the config. -/
namespace Go.Proofs.YtajhndakkaniaaaGreatDoor
open Go.RowKit

def cfgWin (e : Int) : Int := if e = 0 then 200 else if e = 1 then 2 else 0
def cfgBud (e m : Int) : Int := if e = 0 then 3 * m + 100 else 0
set_option maxHeartbeats 4000000 in
theorem config_two (kind tables : Int) (w : World) : Calls Tryz.prog 6 #[.int .i64 kind, .int .i64 0, .int .i64 100, .int .i64 tables] w fun e w' => e = .returned (cfgT (1 + kind % 3) (cfgWin (kind % 3)) (cfgBud (kind % 3) 150) (2 + tables % 6) 1000) ∧ Below w.heap.size w w' ∧ w.heap.size + 2 ≤ w'.heap.size := by
  go_enter Tryz.func6, Tryz.ntmps6
  go_wp2_with fail
  refine (round_any kind 3 _ (by decide) (by decide)).mono ?_
  rintro e w1 ⟨rfl, rfl⟩
  go_wp2_with fail
  refine (round_any 0 5 _ (by decide) (by decide)).mono ?_
  rintro e w1 ⟨rfl, rfl⟩
  go_wp2_with fail
  refine (round_any 100 200 _ (by decide) (by decide)).mono ?_
  rintro e w1 ⟨rfl, rfl⟩
  go_wp2_with fail
  refine (round_any tables 6 _ (by decide) (by decide)).mono ?_
  rintro e w1 ⟨rfl, rfl⟩
  have b1 := Int.emod_nonneg kind (show (3 : Int) ≠ 0 by decide)
  have b2 := Int.emod_lt_of_pos kind (show (0 : Int) < 3 by decide)
  have b7 := Int.emod_nonneg tables (show (6 : Int) ≠ 0 by decide)
  have b8 := Int.emod_lt_of_pos tables (show (0 : Int) < 6 by decide)
  obtain ⟨e, HE⟩ : ∃ e, Hid (kind % 3 = e) := ⟨_, Lib.hid rfl⟩
  rw [HE.out] at b1 b2 ⊢
  obtain ⟨t, HT⟩ : ∃ t, Hid (tables % 6 = t) := ⟨_, Lib.hid rfl⟩
  rw [HT.out] at b7 b8 ⊢

  have he : e = 0 ∨ e = 1 ∨ e = 2 := by omega
  rcases he with rfl | rfl | rfl
  · go_wp2_with fail
    refine done (cfgT 1 200 550 (2 + t) 1000) rfl (by simp [results, Tryz.results6, go_sem]) ⟨by rw [HE.out, HT.out]; rfl, ?_, by simp⟩
    exact ((Below.refl w.heap.size w).alloc (Nat.le_refl _) _).alloc (by simp) _
  · go_wp2_with fail
    refine done (cfgT 2 2 0 (2 + t) 1000) rfl (by simp [results, Tryz.results6, go_sem]) ⟨by rw [HE.out, HT.out]; rfl, ?_, by simp⟩
    exact ((Below.refl w.heap.size w).alloc (Nat.le_refl _) _).alloc (by simp) _
  · go_wp2_with fail
    refine done (cfgT 3 0 0 (2 + t) 1000) rfl (by simp [results, Tryz.results6, go_sem]) ⟨by rw [HE.out, HT.out]; rfl, ?_, by simp⟩
    exact ((Below.refl w.heap.size w).alloc (Nat.le_refl _) _).alloc (by simp) _
end Go.Proofs.YtajhndakkaniaaaGreatDoor
/- TopLimits, walked: whatever the two limits and the size are, and whichever engine it is. -/
namespace Go.Proofs.YtajhndakkaniaaaGreatDoor
open Go.RowKit

set_option maxRecDepth 100000 in
set_option maxHeartbeats 8000000 in
theorem lim_in {m : Nb} {K : Nat → Ev.Hp} {E W Bd : Int} (ht : EngT m.t) (hf : FactsL m K E W Bd) (kind tables last size : Int) (hE : 1 + kind % 3 = E) (hW : cfgWin (kind % 3) = W) (hB : cfgBud (kind % 3) 150 = Bd) (w : World) (h1 : 1 ≤ last) (h2 : last ≤ 30) (h3 : 0 ≤ size) (h4 : size ≤ 25000) :
    Calls Tryz.prog 3 #[.int .i64 kind, .int .i64 tables, .int .u64 last, .int .i64 size] w (TrueBelow w) := by
  obtain ⟨T, HT, t1, t2⟩ : ∃ T : Nat, Hid (2 + tables % 6 = (T : Int)) ∧ 2 ≤ T ∧ T ≤ 7 := by
    have b7 := Int.emod_nonneg tables (show (6 : Int) ≠ 0 by decide)
    have b8 := Int.emod_lt_of_pos tables (show (0 : Int) < 6 by decide)
    exact ⟨(2 + tables % 6).toNat, Lib.hid (by omega), by omega, by omega⟩
  obtain ⟨L, HL, l1, l2⟩ : ∃ L : Nat, Hid (last = (L : Int)) ∧ 1 ≤ L ∧ L ≤ 30 := ⟨last.toNat, Lib.hid (by omega), by omega, by omega⟩
  obtain ⟨s, rfl⟩ : ∃ s : Nat, size = (s : Int) := ⟨size.toNat, by omega⟩
  have HF := Lib.hid hf
  have HQ := Lib.hid ht
  have HE := Lib.hid hE
  have HW := Lib.hid hW
  have HBd := Lib.hid hB
  clear hf ht hE hW hB
  go_enter Tryz.func3, Tryz.ntmps3
  go_wp2_with fail
  refine (config_two kind tables _).mono ?_
  rintro e w1 ⟨rfl, hb1, hs1⟩
  rw [HT.out, HE.out, HW.out, HBd.out]
  have B1 := Lib.hid (And.intro hb1 hs1)
  clear hb1 hs1
  go_wp2_with fail
  rw [HL.out]
  obtain ⟨φ0, sr0, e0, e1, hn0⟩ := two_sr (w0 := w) (w := w1.alloc (.cells #[.int .i64 E, .int .i64 2, .int .i64 2, .int .i64 150, .int .i64 W, .int .i64 3, .int .i64 Bd, .int .i64 1056, .int .i64 4, .int .i64 T, .int .i64 20, .int .i64 40, .int .i64 0, .int .u64 L] 25)) (B1.out.1.alloc B1.out.1.size _) (by rw [World.size_alloc]; have := B1.out.2; omega) t1 t2 l1 l2
  obtain ⟨HN, en, es⟩ := Ev.newL_ok HF.out.new
  have hBs : w.heap.size ≤ (w1.alloc (.cells #[.int .i64 E, .int .i64 2, .int .i64 2, .int .i64 150, .int .i64 W, .int .i64 3, .int .i64 Bd, .int .i64 1056, .int .i64 4, .int .i64 T, .int .i64 20, .int .i64 40, .int .i64 0, .int .u64 L] 25)).heap.size := by rw [World.size_alloc]; have := B1.out.2; omega
  refine ((Ev.ev_ok w.heap.size 60 _ _ _ _ _ en).2 φ0 #[cfgT E W Bd T L] _ (cfgL_v e0 e1 E W Bd) sr0 hBs).mono ?_
  rintro e w2 ⟨u, φ1, rfl, hu, hx⟩
  simp only [Ev.tvV, Ev.svsV, Ev.svV, Ev.cvV, Ev.ptrV] at hu
  obtain ⟨lx, hlx⟩ : ∃ l, φ1 m.x = some l := by
    cases h : φ1 m.x with
    | none => rw [h] at hu; cases hu
    | some l => exact ⟨l, rfl⟩
  rw [hlx] at hu
  cases hu
  have hb2 : Below w.heap.size w w2 := (B1.out.1.alloc B1.out.1.size _).trans ((Ev.Ext.under sr0 hx hBs (Nat.le_refl _)))
  have A2 : Hid (At w.heap.size φ1 w (K 0) φ1 w2) := Lib.hid ⟨hx.sr.sub es, Ev.Le.refl _, hb2, hb2.size⟩
  have H2 : Hid (Two φ1 T L) := Lib.hid ⟨⟨_, hx.le _ _ e0, rfl⟩, ⟨_, hx.le _ _ e1, rfl⟩⟩
  have HX := Lib.hid hlx
  have hap := Apart.of_ext hx es
  have hcb := hap.2 w1.heap.size (by rw [World.size_alloc]; omega) (hn0 _ B1.out.2)
  have hc9 : w2.cell? ⟨w1.heap.size, 9, none⟩ = some (.int .i64 T) := by
    rw [World.cell?_of_block (a := ⟨w1.heap.size, 9, none⟩) hcb.1]
    simp
  have hcn := Lib.hid hcb.2
  obtain ⟨cb, hcbe⟩ : ∃ cb, w1.heap.size = cb := ⟨_, rfl⟩
  rw [hcbe] at hc9 hcn ⊢
  clear sr0 e0 e1 hn0 en es hBs hx hlx hb2 hap hcb B1
  go_wp2_with fail
  obtain ⟨B, hB⟩ : ∃ B, w.heap.size = B := ⟨_, rfl⟩
  rw [hB] at A2
  have HBQ := Lib.hid hB
  clear hB
  go_loopw [12, 13] (fun g i wr => ∃ (n k : Nat) (ψ : Ev.Ren), g = .int .u64 n ∧ i = .int .i64 k ∧ k ≤ 12 ∧ n = min k (min T L) ∧ At B φ1 w (K n) ψ wr ∧ ¬ Ev.Named (K n) ψ cb ∧ wr.cell? ⟨cb, 9, none⟩ = some (.int .i64 T)) (fun _ i _ => 12 - (intOf i).toNat)
  case atStart => exact ⟨0, 0, φ1, rfl, rfl, by omega, by omega, A2.out, hcn.out, hc9⟩
  case round =>
    obtain ⟨n, k, ψ, rfl, rfl, hk, hn, hat, hnm, hc⟩ := hrel
    rename World => wi
    have HA := Lib.hid hat
    have HN := Lib.hid hnm
    have HM := Lib.hid hn
    have hn7 : n ≤ 7 := by omega
    have hnT : n ≤ T := by omega
    have hnL : n ≤ L := by omega
    clear hat hnm hn A2 hcn
    by_cases hlt : k < 12
    · have hkd : decide ((k : Int) < 12) = true := decide_eq_true (by omega)
      obtain ⟨i0, hi0, hz0, hs0, hb0⟩ := info_parts info_u8
      go_wp2_with (refine wpList_make_row _ rfl (.tmp 64) (.tmp 64) _ rfl TU8 i0 (.int .u8 0) (by rfl) hi0 hz0 hs0 rfl .i64 .i64 (20001 + s) rfl rfl (by rw [hb0]; omega) (by omega) ?_)
      have hb1 : Below wi.heap.size wi (wi.alloc (.cells (madeCells #[.int .u8 0] (20001 + s)) TU8)) := (Below.refl wi.heap.size wi).alloc (Nat.le_refl _) _
      have A1 := Lib.hid (HA.out.below hb1)
      refine (big_in A1.out.sr HQ.out (HF.out.way n hn7) (A1.out.le _ _ HX.out) (20001 + s) (20001 + s) _ (by omega) (by omega)).mono ?_
      rintro e w5 ⟨rfl, hb5⟩
      have A5 := Lib.hid (A1.out.below hb5)
      have P5 : Hid (Apart (K n) ψ wi (K n) ψ w5) := Lib.hid ((Apart.of_below hb1).trans (Apart.of_below hb5))
      have c5 := P5.out.cell hc HN.out
      clear hb1 hb5 A1 HA hi0 hz0 hs0 hb0
      have h3 : (n < T ∧ n < L) ∨ T = n ∨ (n < T ∧ L = n) := by omega
      have hz1 : decide ((0 : Int) = (n : Int) + 1) = false := decide_eq_false (by omega)
      have hz2 : ((0 : Int) == (n : Int) + 1) = false := by simp; omega
      rcases h3 with ⟨g1, g2⟩ | g1 | ⟨g1, g2⟩
      · have ek : k = n := by have := HM.out; omega
        subst ek
        have q1 : decide ((T : Int) ≤ k) = false := decide_eq_false (by omega)
        have q2 : decide ((L : Int) ≤ k) = false := decide_eq_false (by omega)
        go_wp2_with fail
        refine (fit_at H2.out HF.out (n := k) (by omega) A5.out g1 t1 t2 g2 l2 HX.out).mono ?_
        rintro e w6 ⟨rfl, ψ', hat6, hap6⟩
        have P6 : Hid (Apart (K k) ψ wi (K (k + 1)) ψ' w6) := Lib.hid (P5.out.trans hap6)
        have A6 := Lib.hid hat6
        have N6 := Lib.hid (P6.out.2 cb (World.block_lt_of_cell? wi _ hc) HN.out).2
        have c6 := P6.out.cell hc HN.out
        clear hat6 hap6 A5 c5 P5
        go_wp2_with fail
        refine (held_at HF.out (n := k + 1) (by omega) A6.out HX.out).mono ?_
        rintro e w7 ⟨⟨kk, rfl⟩, hat7, hap7⟩
        have A7 := Lib.hid hat7
        have c7 := hap7.cell c6 N6.out
        clear hat7 hap7 A6 c6
        rw [show ((k + 1 : Nat) : Int) = (k : Int) + 1 from rfl]
        go_wp2_with fail
        go_roundw
        case rel => exact ⟨k + 1, k + 1, ψ', by go_num, by go_num, by omega, by omega, A7.out, N6.out, c7⟩
        case measure => simp [intOf]; omega
      · have q1 : decide ((T : Int) ≤ n) = true := decide_eq_true (by omega)
        have q3 : (T : Int) ≤ n := by omega
        have q4 : T ≤ n := by omega
        have sr5 := two_nar H2.out HF.out hn7 A5.out (a := n) (b := n) (c := n) (d := 30) (by omega) (by omega) (by omega) l2
        have hno := HF.out.full n (by omega) hn7 k
        have G1 := Lib.hid g1
        clear g1
        go_wp2_with fail
        refine (no_at HF.out hn7 A5.out sr5 hno HX.out).mono ?_
        rintro e w6 ⟨rfl, hat6, hap6⟩
        clear sr5 hno
        have P6 : Hid (Apart (K n) ψ wi (K (n)) ψ w6) := Lib.hid (P5.out.trans hap6)
        have A6 := Lib.hid hat6
        have N6 := Lib.hid (P6.out.2 cb (World.block_lt_of_cell? wi _ hc) HN.out).2
        have c6 := P6.out.cell hc HN.out
        clear hat6 hap6 A5 c5 P5
        go_wp2_with fail
        refine (held_at HF.out (n := n) (by omega) A6.out HX.out).mono ?_
        rintro e w7 ⟨⟨kk, rfl⟩, hat7, hap7⟩
        have A7 := Lib.hid hat7
        have c7 := hap7.cell c6 N6.out
        clear hat7 hap7 A6 c6
        go_wp2_with fail
        go_roundw
        case rel => exact ⟨n, k + 1, ψ, rfl, by go_num, by omega, by have := HM.out; have := G1.out; omega, A7.out, N6.out, c7⟩
        case measure => simp [intOf]; omega
      · have q1 : decide ((T : Int) ≤ n) = false := decide_eq_false (by omega)
        have q2 : decide ((L : Int) ≤ n) = true := decide_eq_true (by omega)
        have q3 : (L : Int) ≤ n := by omega
        have q4 : L ≤ n := by omega
        have q5 : ¬ ((T : Int) ≤ n) := by omega
        have q6 : ¬ (T ≤ n) := by omega
        have sr5 := two_nar H2.out HF.out hn7 A5.out (a := n + 1) (b := 7) (c := n) (d := n) (by omega) t2 (by omega) (by omega)
        have hno := HF.out.spent n (by omega) (by omega) k
        have G1 := Lib.hid g1
        have G2 := Lib.hid g2
        clear g1 g2
        go_wp2_with fail
        refine (no_at HF.out hn7 A5.out sr5 hno HX.out).mono ?_
        rintro e w6 ⟨rfl, hat6, hap6⟩
        clear sr5 hno
        have P6 : Hid (Apart (K n) ψ wi (K (n)) ψ w6) := Lib.hid (P5.out.trans hap6)
        have A6 := Lib.hid hat6
        have N6 := Lib.hid (P6.out.2 cb (World.block_lt_of_cell? wi _ hc) HN.out).2
        have c6 := P6.out.cell hc HN.out
        clear hat6 hap6 A5 c5 P5
        go_wp2_with fail
        refine (held_at HF.out (n := n) (by omega) A6.out HX.out).mono ?_
        rintro e w7 ⟨⟨kk, rfl⟩, hat7, hap7⟩
        have A7 := Lib.hid hat7
        have c7 := hap7.cell c6 N6.out
        clear hat7 hap7 A6 c6
        go_wp2_with fail
        go_roundw
        case rel => exact ⟨n, k + 1, ψ, rfl, by go_num, by omega, by have := HM.out; have := G1.out; have := G2.out; omega, A7.out, N6.out, c7⟩
        case measure => simp [intOf]; omega
    · have hkd : decide ((k : Int) < 12) = false := decide_eq_false (by omega)
      have hk12 : k = 12 := by omega
      obtain ⟨N, F, hbnd, hends, hpolls⟩ := HF.out.fin n (by have := HM.out; omega) hn7
      obtain ⟨r2, Hb, eb, hN, hr2, hsb⟩ := Ev.bndL_ok hbnd
      have HE1 := Lib.hid (And.intro eb (And.intro hN (And.intro hr2 (And.intro hsb (And.intro hends hpolls)))))
      clear hbnd hends hpolls eb hN hr2 hsb hk12 hc HN
      go_wp2_with fail
      refine (tell_at HA.out HE1.out.1 HE1.out.2.2.2.1 (args := #[.pointer (some ⟨lx.b, lx.s, none⟩)]) (Ev.tvs_cons (Ev.tv_pt (HA.out.le _ _ HX.out)) rfl)).mono ?_
      rintro e w2' ⟨u, ψ1, rfl, hu, hat, _⟩
      cases hu
      have A1 := Lib.hid hat
      clear hat HA
      go_wp2_with fail
      refine (fair_any (r2 : Int) HE1.out.2.2.2.2.1 (by have := HE1.out.2.1; omega) (by have := HE1.out.2.2.1; omega) A1.out HX.out).mono ?_
      rintro e w3' ⟨k2, ψ2, rfl, hat⟩
      have A2 := Lib.hid hat
      have HP0 := Lib.hid HE1.out.2.2.2.2.2
      clear hat A1
      go_wp2_with fail
      go_loopw [21] (fun i wr => ∃ (j : Nat) (Fj : Ev.Hp) (ψj : Ev.Ren), i = .int .u64 ((j : Int) + 1) ∧ j ≤ n ∧ Ev.pollsL (Ev.ev 60) m.x (n - j) Fj = true ∧ At B φ1 w Fj ψj wr) (fun i _ => n + 1 - (intOf i).toNat)
      case atStart => exact ⟨0, F, ψ2, rfl, Nat.zero_le _, HP0.out, A2.out⟩
      case round =>
        obtain ⟨j, Fj, ψj, rfl, hj, hp, hat⟩ := hrel
        have HA2 := Lib.hid hat
        have HP := Lib.hid hp
        clear hat hp A2 HP0
        rename World => wj
        by_cases hlt2 : j < n
        · have hkd2 : decide ((j : Int) + 1 ≤ n) = true := decide_eq_true (by omega)
          obtain ⟨r, hr⟩ : ∃ r, n - j = r + 1 := ⟨n - j - 1, by omega⟩
          have hp2 := HP.out
          rw [hr] at hp2
          obtain ⟨q, zz, o, d, e2, F1, ep, hp3⟩ := Ev.pollsL_succ hp2
          have HEP := Lib.hid (And.intro ep hp3)
          have HRR := Lib.hid hr
          clear hp2 ep hp3 hr HP
          go_wp2_with fail
          refine (HA2.out.call HEP.out.1 (args := #[.pointer (some ⟨lx.b, lx.s, none⟩), .int .i64 1]) (Ev.tvs_cons (Ev.tv_pt (HA2.out.le _ _ HX.out)) rfl)).mono ?_
          rintro e w4' ⟨u, ψ3, rfl, hu, _, hat3⟩
          have A3 := Lib.hid hat3
          obtain ⟨sa, sc, hvs⟩ : ∃ a c, Ev.cvV ψ3 (.s zz o d 1 e2) = some (.slice (some a) 1 c) := by
            cases hz : ψ3 zz with
            | none => simp [Ev.tvV, Ev.svsV, Ev.svV, Ev.cvsV, Ev.cvV, hz] at hu
            | some lz =>
              by_cases hroom : 1 + d ≤ lz.c
              · exact ⟨_, _, by simp only [Ev.cvV, hz]; rw [if_pos hroom]⟩
              · simp [Ev.tvV, Ev.svsV, Ev.svV, Ev.cvsV, Ev.cvV, hz, hroom] at hu
          have ek : ∀ v, Ev.cvV ψ3 (.k v) = some v := fun _ => rfl
          simp only [Ev.tvV, Ev.svsV, Ev.svV, Ev.cvsV, ek, hvs] at hu
          cases hu
          clear hat3 hvs ek HA2
          go_wp2_with fail
          go_roundw
          case rel => exact ⟨j + 1, F1, ψ3, by go_num, by omega, by rw [show n - (j + 1) = r by have := HRR.out; omega]; exact HEP.out.2, A3.out.below ((Below.refl w4'.heap.size w4').alloc (Nat.le_refl _) _)⟩
          case measure => simp [intOf]; omega
        · have hkd2 : decide ((j : Int) + 1 ≤ n) = false := decide_eq_false (by omega)
          have hp2 := HP.out
          rw [show n - j = 0 by omega] at hp2
          obtain ⟨a, i, F1, ep⟩ := Ev.pollsL_zero hp2
          have HEP := Lib.hid ep
          clear hp2 ep HP
          go_wp2_with fail
          refine (HA2.out.call HEP.out (args := #[.pointer (some ⟨lx.b, lx.s, none⟩), .int .i64 1]) (Ev.tvs_cons (Ev.tv_pt (HA2.out.le _ _ HX.out)) rfl)).mono ?_
          rintro e w4' ⟨u, ψ3, rfl, hu, _, hat3⟩
          have hu : some (Value.tuple #[.agg #[.int .i64 a, .int .u64 i, .slice none 0 0], .bool false]) = some u := hu
          cases hu
          have A3 := Lib.hid hat3
          clear hat3 HA2
          go_wp2_with fail
          refine (awake_any _).mono ?_
          rintro e w6' ⟨rfl, hb6⟩
          have A4 := Lib.hid (A3.out.below ((Below.refl w4'.heap.size w4').alloc (Nat.le_refl _) (.cells #[.int .i64 a, .int .u64 i, .slice none 0 0] 39)))
          have B6 := Lib.hid (A4.out.bel.trans (hb6.mono A4.out.size))
          clear hb6 A3 A4
          go_wp2_with fail
          go_ret
          refine ⟨rfl, ?_⟩
          rw [HBQ.out]
          exact B6.out
end Go.Proofs.YtajhndakkaniaaaGreatDoor
/- TopLimits returns true, for every input: out of what is evaluated of the three engines. -/
namespace Go.Proofs.YtajhndakkaniaaaGreatDoor
open Go.RowKit

set_option maxRecDepth 100000 in
theorem lim_any (f0 : ∃ m K, EngT m.t ∧ FactsL m K 1 200 550) (f1 : ∃ m K, EngT m.t ∧ FactsL m K 2 2 0) (f2 : ∃ m K, EngT m.t ∧ FactsL m K 3 0 0) (kind tables last size : Int) (w : World) :
    Calls Tryz.prog 3 #[.int .i64 kind, .int .i64 tables, .int .u64 last, .int .i64 size] w (TrueBelow w) := by
  by_cases hl : (1 ≤ last ∧ last ≤ 30) ∧ 0 ≤ size ∧ size ≤ 25000
  · obtain ⟨⟨h1, h2⟩, h3, h4⟩ := hl
    have hk : kind % 3 = 0 ∨ kind % 3 = 1 ∨ kind % 3 = 2 := by omega
    rcases hk with e | e | e
    · obtain ⟨m, K, ht, hf⟩ := f0
      exact lim_in ht hf kind tables last size (by rw [e]; rfl) (by rw [e]; rfl) (by rw [e]; rfl) w h1 h2 h3 h4
    · obtain ⟨m, K, ht, hf⟩ := f1
      exact lim_in ht hf kind tables last size (by rw [e]; rfl) (by rw [e]; rfl) (by rw [e]; rfl) w h1 h2 h3 h4
    · obtain ⟨m, K, ht, hf⟩ := f2
      exact lim_in ht hf kind tables last size (by rw [e]; rfl) (by rw [e]; rfl) (by rw [e]; rfl) w h1 h2 h3 h4
  · have hc : last < 1 ∨ (1 ≤ last ∧ 30 < last) ∨ (1 ≤ last ∧ last ≤ 30 ∧ size < 0) ∨ (1 ≤ last ∧ last ≤ 30 ∧ 0 ≤ size ∧ 25000 < size) := by omega
    clear hl f0 f1 f2
    rcases hc with e1 | ⟨e1, e2⟩ | ⟨e1, e2, e3⟩ | ⟨e1, e2, e3, e4⟩
    all_goals
      go_enter Tryz.func3, Tryz.ntmps3
      go_wp2_with fail
      refine (awake_any _).mono ?_
      rintro e w3 ⟨rfl, hb3⟩
      go_wp2_with fail
      go_ret
      exact ⟨rfl, hb3⟩
end Go.Proofs.YtajhndakkaniaaaGreatDoor
