/- The law CreditLoss (chapter 19), walked. -/
import Derived.Test.YtocopgmbfmechaaLossA
namespace Go.Proofs.Ytocopgmbfmechaa
open Go.RowKit

theorem upnil (x y : Int) (w : World) : Calls Try.prog 9 #[.pointer none, .int .i64 x, .int .i64 y] w fun e w' => e = .returned (.int .i64 0) ∧ w = w' := by
  go_enter Try.func9, Try.ntmps9
  go_wp2_with fail
  go_ret
  exact ⟨rfl, rfl⟩
theorem ratenil (w : World) : Calls Try.prog 11 #[.pointer none] w fun e w' => e = .returned (.int .i64 0) ∧ w = w' := by
  go_enter Try.func11, Try.ntmps11
  go_wp2_with fail
  go_ret
  exact ⟨rfl, rfl⟩
theorem aggrnil (w : World) : Calls Try.prog 12 #[.pointer none] w fun e w' => e = .returned (.int .i64 0) ∧ w = w' := by
  go_enter Try.func12, Try.ntmps12
  go_wp2_with fail
  go_ret
  exact ⟨rfl, rfl⟩
theorem risesnil (w : World) : Calls Try.prog 13 #[.pointer none] w fun e w' => e = .returned (.int .i64 0) ∧ w = w' := by
  go_enter Try.func13, Try.ntmps13
  go_wp2_with fail
  go_ret
  exact ⟨rfl, rfl⟩
def cntI (l : List Int) : Int → Int := fun k => (l.count k : Int)
theorem cnt_step {l : List Int} {i : Nat} (h : i < l.length) : updI (cntI (l.take i)) l[i] (cntI (l.take i) l[i] + 1) = cntI (l.take (i + 1)) := by
  funext j
  unfold updI cntI
  rw [List.take_succ_eq_append_getElem h, List.count_append]
  by_cases hj : j = l[i]
  · rw [if_pos hj, hj]; simp
  · rw [if_neg hj, List.count_singleton]
    have : (l[i] == j) = false := beq_eq_false_iff_ne.2 (fun e => hj e.symm)
    rw [this]; simp
theorem cnt_le (l : List Int) (k : Int) : 0 ≤ cntI l k ∧ cntI l k ≤ l.length := by
  unfold cntI
  have := List.count_le_length (l := l) (a := k)
  omega
/-- how often each number is open -/
def opn (L u : List Int) : Int → Int := fun k => if k ∈ u then 0 else cntI L k
theorem opn_step {L u : List Int} {j : Nat} (h : j < u.length) : updI (opn L (u.take j)) u[j] 0 = opn L (u.take (j + 1)) := by
  funext k
  unfold updI opn
  rw [List.take_succ_eq_append_getElem h]
  by_cases hk : k = u[j]
  · rw [if_pos hk, if_pos (by rw [List.mem_append]; exact .inr (by rw [hk]; exact List.mem_singleton_self _))]
  · rw [if_neg hk]
    by_cases hm : k ∈ u.take j
    · rw [if_pos hm, if_pos (List.mem_append.2 (.inl hm))]
    · rw [if_neg hm, if_neg (fun h => by rcases List.mem_append.1 h with h | h; exact hm h; exact hk (List.mem_singleton.1 h))]
theorem opn_usd {L u : List Int} {k : Int} : usd (opn L u) k = if k ∈ L ∧ ¬ k ∈ u then 1 else 0 := by
  unfold usd opn cntI
  by_cases hu : k ∈ u
  · rw [if_pos hu, if_neg (by decide), if_neg (fun h => h.2 hu)]
  · rw [if_neg hu]
    by_cases hL : k ∈ L
    · have h1 : (0 : Int) < (L.count k : Int) := by have := List.count_pos_iff.2 hL; omega
      rw [if_pos h1, if_pos (show k ∈ L ∧ ¬ k ∈ u from ⟨hL, hu⟩)]
    · have h1 : ¬ (0 : Int) < (L.count k : Int) := by have := List.count_eq_zero.2 hL; omega
      rw [if_neg h1, if_neg (show ¬ (k ∈ L ∧ ¬ k ∈ u) from fun h => hL h.1)]
abbrev TBo : TypeId := 4
theorem info_bo : (Try.prog.info? TBo).map (fun i => (i.zero, i.size, i.bytes)) = some (some (.bool false), 1, 1) := by kernel_rfl
theorem info_nt : (Try.prog.info? TNt).map (fun i => (i.zero, i.size, i.bytes)) = some (some (.int .i64 0), 1, 8) := by kernel_rfl
theorem made_bo (n : Nat) : madeCells #[Value.bool false] n = ((List.replicate n false).map Value.bool).toArray := by
  rw [List.map_replicate]
  apply Array.ext'
  simp [madeCells, Nat.mod_one, List.map_const']
theorem ints_one (l : List Int) : ∀ u ∈ l.map (Value.int .i64), u.oneCell' = true := by
  intro u hu
  obtain ⟨x, _, rfl⟩ := List.mem_map.1 hu
  rfl
theorem mem_step {l : List Int} {k : Nat} (h : k < l.length) (x : Int) : decide (x ∈ l.take (k + 1)) = (decide (x ∈ l.take k) || (l[k] == x)) := by
  rw [List.take_succ_eq_append_getElem h, Bool.eq_iff_iff, decide_eq_true_iff, Bool.or_eq_true, decide_eq_true_iff, beq_iff_eq, List.mem_append, List.mem_singleton]
  exact ⟨fun h => h.imp (fun h => h) (fun h => h.symm), fun h => h.imp (fun h => h) (fun h => h.symm)⟩
theorem nodup_step {l : List Int} {k : Nat} (h : k < l.length) (hn : (l.take k).Nodup) (hx : ¬ l[k] ∈ l.take k) : (l.take (k + 1)).Nodup := by
  rw [List.take_succ_eq_append_getElem h, List.nodup_append]
  refine ⟨hn, by simp, fun a ha b hb => ?_⟩
  rw [List.mem_singleton] at hb
  subst hb
  intro e
  subst e
  exact hx ha
def Bk (L ut : List Int) (y : Int) (k : Nat) (G : List Bool) : Prop := G.length = L.length ∧ ∀ q, (hq : q < L.length) → G[q]? = some (decide (L[q] ∈ ut) || (decide (q < k) && (L[q] == y)))
theorem bk_skip {L ut : List Int} {y : Int} {k : Nat} {G : List Bool} (hk : k < L.length) (h : Bk L ut y k G) (hs : (L[k] == y) = false ∨ decide (L[k] ∈ ut) = true) : Bk L ut y (k + 1) G := by
  refine ⟨h.1, fun q hq => ?_⟩
  rw [h.2 q hq]
  by_cases hqk : q = k
  · subst hqk
    rcases hs with hs | hs
    · rw [hs]; simp
    · rw [hs]; simp
  · have : decide (q < k + 1) = decide (q < k) := by
      by_cases h1 : q < k
      · rw [decide_eq_true h1, decide_eq_true (by omega)]
      · rw [decide_eq_false h1, decide_eq_false (by omega)]
    rw [this]
theorem bk_set {L ut : List Int} {y : Int} {k : Nat} {G : List Bool} (hk : k < L.length) (h : Bk L ut y k G) (hs : (L[k] == y) = true) : Bk L ut y (k + 1) (G.set k true) := by
  refine ⟨by rw [List.length_set]; exact h.1, fun q hq => ?_⟩
  rw [List.getElem?_set]
  by_cases hqk : k = q
  · subst hqk
    rw [if_pos rfl, if_pos (by rw [h.1]; exact hq), hs]
    simp
  · rw [if_neg hqk, h.2 q hq]
    have : decide (q < k + 1) = decide (q < k) := by
      by_cases h1 : q < k
      · rw [decide_eq_true h1, decide_eq_true (by omega)]
      · rw [decide_eq_false h1, decide_eq_false (by omega)]
    rw [this]
theorem bk_at {L ut : List Int} {y : Int} {k : Nat} {G : List Bool} (hk : k < L.length) (h : Bk L ut y k G) : G[k]? = some (decide (L[k] ∈ ut)) := by
  rw [h.2 k hk]; simp
theorem bk_end {L u : List Int} {j : Nat} {G : List Bool} (hj : j < u.length) (h : Bk L (u.take j) u[j] L.length G) (y : Int) : Bk L (u.take (j + 1)) y 0 G := by
  refine ⟨h.1, fun q hq => ?_⟩
  rw [h.2 q hq, mem_step hj, decide_eq_true hq]
  congr 1
  have : (L[q] == u[j]) = (u[j] == L[q]) := by rw [Bool.eq_iff_iff, beq_iff_eq, beq_iff_eq]; exact eq_comm
  rw [this]; simp
theorem bk_other {L ut : List Int} {y z : Int} {G : List Bool} (h : Bk L ut y 0 G) : Bk L ut z 0 G := ⟨h.1, fun q hq => by rw [h.2 q hq]; simp⟩
def ind (L ut : List Int) (y : Int) : Int := if y ∈ L ∧ ¬ y ∈ ut then 1 else 0
theorem ind_skip {L ut : List Int} {y : Int} {k : Nat} (hk : k < L.length) (hs : (L[k] == y) = false ∨ decide (L[k] ∈ ut) = true) (hy : (L[k] == y) = true → L[k] = y) : ind (L.take (k + 1)) ut y = ind (L.take k) ut y := by
  unfold ind
  rw [List.take_succ_eq_append_getElem hk]
  rcases hs with hs | hs
  · have hne : ¬ y = L[k] := fun e => by rw [← e] at hs; simp at hs
    simp only [List.mem_append, List.mem_singleton, hne, or_false]
  · by_cases he : (L[k] == y) = true
    · have := hy he
      have hm : y ∈ ut := by rw [← this]; exact of_decide_eq_true hs
      rw [if_neg (fun h => h.2 hm), if_neg (fun h => h.2 hm)]
    · have hne : ¬ y = L[k] := fun e => he (by rw [← e]; simp)
      simp only [List.mem_append, List.mem_singleton, hne, or_false]
theorem ind_new {L ut : List Int} {y : Int} {k : Nat} (hk : k < L.length) (hn : L.Nodup) (hy : L[k] = y) (hu : ¬ y ∈ ut) : ind (L.take k) ut y = 0 ∧ ind (L.take (k + 1)) ut y = 1 := by
  have h1 : ¬ y ∈ L.take k := by
    intro hm
    rw [List.mem_take_iff_getElem] at hm
    obtain ⟨q, hq, he⟩ := hm
    have hp : L.Pairwise (· ≠ ·) := hn
    exact List.pairwise_iff_getElem.1 hp q k (by omega) hk (by omega) (he.trans hy.symm)
  unfold ind
  refine ⟨if_neg (fun h => h1 h.1), if_pos ⟨?_, hu⟩⟩
  rw [List.take_succ_eq_append_getElem hk, List.mem_append, List.mem_singleton]
  exact .inr hy.symm
set_option maxRecDepth 100000 in
set_option maxHeartbeats 16000000 in
theorem loss_in (L u : List Int) (v y : Value) (w : World) (h : Rd w 1 v L.length (L.map (Value.int .i64))) (h' : Rd w 1 y u.length (u.map (Value.int .i64))) (hL : L.length ≤ 60) (hu : u.length ≤ 60) (wL : ∀ x ∈ L, I64 x) (wu : ∀ x ∈ u, I64 x) : Calls Try.prog 5 #[v, y] w (TrueBelow w) := by
  obtain ⟨a, ca, rfl, _, _⟩ := h.form
  obtain ⟨d, cd, rfl, _, _⟩ := h'.form
  have HR := Lib.hid h
  have HU := Lib.hid h'
  have WL := Lib.hid wL
  have WU := Lib.hid wu
  clear h h' wL wu
  go_enter Try.func5, Try.ntmps5
  go_upto_region 5 with fail
  obtain ⟨b, HBZ⟩ : ∃ b, Hid (w.heap.size = b) := ⟨_, Lib.hid rfl⟩
  have HL0 := Lib.hid (show Lo b b none 0 0 (fun _ => 0) 0 (w.alloc (.cells #[.int .i64 0, .int .i64 0, .map none] TLo)) from ⟨by rw [← HBZ.out]; exact Ob.new _ _ _, fun _ => rfl, fun M hM => (by cases hM), Nat.le_refl _⟩)
  have B0 := Lib.hid ((Below.refl w.heap.size w).alloc (Nat.le_refl _) (.cells #[.int .i64 0, .int .i64 0, .map none] TLo))
  generalize w.alloc (.cells #[.int .i64 0, .int .i64 0, .map none] TLo) = w0 at *
  rw [HBZ.out] at B0 ⊢
  go_loopw [6] (fun z wr => ∃ (i : Nat) (mp : Option Nat), z = .int .i64 i ∧ i ≤ L.length ∧ Lo b b mp i 0 (cntI (L.take i)) i wr ∧ Below b w wr) (fun a _ => L.length - (intOf a).toNat)
  case atStart => exact ⟨0, none, rfl, Nat.zero_le _, HL0.out, B0.out⟩
  case round =>
    obtain ⟨i, mp, rfl, hi, hlo, hb⟩ := hrel
    have HL := Lib.hid hlo
    have HB := Lib.hid hb
    clear hlo hb HL0 B0
    by_cases hlt : i < L.length
    · obtain ⟨bo, oo, rfl, c0⟩ := (HR.out.below (by rw [HBZ.out]; exact HB.out)).at i hlt
      have hdi : decide (i < L.length) = true := decide_eq_true hlt
      have hxw := WL.out _ (List.getElem_mem hlt)
      have HST := Lib.hid (cnt_step hlt)
      have hcl := cnt_le (L.take i) L[i]
      have htl : (L.take i).length ≤ 60 := by rw [List.length_take]; omega
      obtain ⟨x, HX⟩ : ∃ x, Hid (L[i] = x) := ⟨_, Lib.hid rfl⟩
      rw [HX.out] at c0 hxw HST hcl
      go_wp2_with fail
      refine (sent_lo b b mp i 0 (cntI (L.take i)) i x _ HL.out hxw (by omega) (by omega) (by omega)).mono ?_
      rintro e w3 ⟨rfl, hpo⟩
      rw [HST.out] at hpo
      have hb3 := hpo.below HL.out
      obtain ⟨mp3, hl3, _⟩ := hpo
      have HL3 := Lib.hid hl3
      have HB3 := Lib.hid (HB.out.trans hb3)
      clear hl3 hb3 c0
      go_wp2_with fail
      go_roundw
      case rel => exact ⟨i + 1, mp3, by go_num, by omega, HL3.out, HB3.out⟩
      case measure => simp [intOf]; omega
    · obtain rfl : L.length = i := by omega
      rw [List.take_length] at HL
      have hdi : decide (L.length < L.length) = false := decide_eq_false (Nat.lt_irrefl _)
      have hbw : b ≤ wr.heap.size := by have := HL.out.ob.lt; omega
      go_wp2_with fail
      rename World => w1
      have O1 := Lib.hid (World.ownsRow_nil (base := w1.heap.size) w1 TNt 1)
      go_loopw [7, 8] (fun z7 z8 wi => ∃ (i : Nat) (na : Option Addr) (nc : Nat), z8 = .int .i64 i ∧ z7 = .slice na i nc ∧ i ≤ L.length ∧ wi.ownsRow w1.heap.size TNt 1 (.slice na i nc) i ((L.take i).map (Value.int .i64)) ∧ Hid ((L.take i).Nodup) ∧ Below w1.heap.size w1 wi) (fun _ a _ => L.length - (intOf a).toNat)
      case atStart => exact ⟨0, none, 0, rfl, rfl, Nat.zero_le _, O1.out, Lib.hid (by simp), Below.refl _ _⟩
      case round =>
        obtain ⟨i, na, nc, rfl, rfl, hi, ho, HND, hb1⟩ := hrel
        rename World => wi
        have HOI := Lib.hid ho
        have HB1 := Lib.hid hb1
        have si := hb1.size
        clear ho hb1 O1
        by_cases hlt : i < L.length
        · have hdi2 : decide (i < L.length) = true := decide_eq_true hlt
          have HRI := Lib.hid (HR.out.below (by rw [HBZ.out]; exact HB.out.trans (HB1.out.mono hbw)))
          obtain ⟨x, HX⟩ : ∃ x, Hid (L[i] = x) := ⟨_, Lib.hid rfl⟩
          go_wp2_with fail
          go_loopw [9, 10] (fun zm zk wj => ∃ k : Nat, zk = .int .i64 k ∧ k ≤ i ∧ zm = .bool (decide (x ∈ L.take k)) ∧ Kept (fun _ => False) wi wj) (fun _ a _ => i - (intOf a).toNat)
          case atStart => exact ⟨0, rfl, Nat.zero_le _, by simp, Kept.refl _ _⟩
          case round =>
            obtain ⟨k, rfl, hk, rfl, hkp⟩ := hrel
            rename World => wj
            have HKP := Lib.hid hkp
            clear hkp
            by_cases hlk : k < i
            · have hkL : k < L.length := by omega
              have HMS := Lib.hid (mem_step hkL x)
              obtain ⟨bs, os, hes, c0⟩ := (HRI.out.keptF HKP.out).at i hlt
              cases hes
              rw [HX.out] at c0
              have hlen : (L.take i).length = i := by rw [List.length_take]; omega
              have hrn := (Rd.of_own HOI.out).keptF HKP.out
              have hrn2 : Rd wj 1 (.slice na (L.take i).length nc) (L.take i).length ((L.take i).map (Value.int .i64)) := by rw [hlen]; exact hrn
              obtain ⟨bn, on, hen, c1⟩ := hrn2.at k (by omega)
              cases hen
              rw [List.getElem_take] at c1
              obtain ⟨yk, HYK⟩ : ∃ yk, Hid (L[k] = yk) := ⟨_, Lib.hid rfl⟩
              rw [HYK.out] at c1 HMS
              obtain ⟨mt, HMT⟩ : ∃ mt, Hid (decide (x ∈ L.take k) = mt) := ⟨_, Lib.hid rfl⟩
              rw [HMT.out] at HMS ⊢
              have hlki : (k : Int) < i := by omega
              clear hrn hrn2 hlen
              cases mt
              · by_cases he : yk = x
                · have hbe : (yk == x) = true := beq_iff_eq.2 he
                  have HE := Lib.hid hbe
                  clear he
                  go_wp2_with fail
                  refine wp_region_quiet_lit (by kernel_rfl) (by kernel_rfl) ?_
                  try simp only [List.append]
                  repeat (first | go_big_quiet_step (fail) | quiet_step (fail))
                  refine wpQuiet_nil ?_
                  intro W1 hW1
                  have HK1 := Lib.hid (HKP.out.trans (kept_exL hW1))
                  clear hW1
                  go_wp2_with fail
                  go_roundw
                  case rel => exact ⟨k + 1, by go_num, by omega, by rw [HMS.out, HE.out]; rfl, HK1.out⟩
                  case measure => simp [intOf]; omega
                · have hbe : (yk == x) = false := beq_eq_false_iff_ne.2 he
                  have HE := Lib.hid hbe
                  clear he
                  go_wp2_with fail
                  refine wp_region_quiet_lit (by kernel_rfl) (by kernel_rfl) ?_
                  try simp only [List.append]
                  repeat (first | go_big_quiet_step (fail) | quiet_step (fail))
                  refine wpQuiet_nil ?_
                  intro W1 hW1
                  have HK1 := Lib.hid (HKP.out.trans (kept_exL hW1))
                  clear hW1
                  go_wp2_with fail
                  go_roundw
                  case rel => exact ⟨k + 1, by go_num, by omega, by rw [HMS.out, HE.out]; rfl, HK1.out⟩
                  case measure => simp [intOf]; omega
              · go_wp2_with fail
                refine wp_region_quiet_lit (by kernel_rfl) (by kernel_rfl) ?_
                try simp only [List.append]
                repeat (first | go_big_quiet_step (fail) | quiet_step (fail))
                refine wpQuiet_nil ?_
                intro W1 hW1
                have HK1 := Lib.hid (HKP.out.trans (kept_exL hW1))
                clear hW1
                go_wp2_with fail
                go_roundw
                case rel => exact ⟨k + 1, by go_num, by omega, by rw [HMS.out]; rfl, HK1.out⟩
                case measure => simp [intOf]; omega
            · obtain rfl : i = k := by omega
              have hswj := HKP.out.size
              obtain ⟨mt, HMT⟩ : ∃ mt, Hid (decide (x ∈ L.take i) = mt) := ⟨_, Lib.hid rfl⟩
              rw [HMT.out]
              cases mt
              rotate_left
              · go_wp2_with fail
                refine (awake_any _).mono ?_
                rintro e w8 ⟨rfl, hb8⟩
                go_wp2_with fail
                go_ret
                refine ⟨rfl, ?_⟩
                rw [HBZ.out]
                exact ((HB.out.trans (HB1.out.mono hbw)).trans (HKP.out.below.mono (by omega))).trans (hb8.mono (by omega))
              · have hm : ¬ x ∈ L.take i := of_decide_eq_false HMT.out
                have HND2 := Lib.hid (nodup_step hlt HND.out (by rw [HX.out]; exact hm))
                clear hm
                obtain ⟨bs, os, hes, c0⟩ := (HRI.out.keptF HKP.out).at i hlt
                cases hes
                rw [HX.out] at c0
                have HOJ := Lib.hid (own_kept HOI.out ((HKP.out).alloc (.cells #[.int .i64 x] TNt)) (fun _ _ hh => hh))
                have RJ := Lib.hid (Rd.one (k := 1) wj #[.int .i64 x] TNt rfl)
                have BJ := Lib.hid ((HB1.out.trans (HKP.out.below.mono (by omega))).alloc (by omega) (.cells #[.int .i64 x] TNt))
                have hbig : (i + 1) * 8 ≤ 140737488355328 := by omega
                go_wp2_with (at_builtin; (refine wpList_appAt rfl (.tmp 69) (.tmp 74) 41 rfl info_nt Try.underlying41 rfl (by decide) HOJ.out RJ.out rfl rfl (fun u hu => by simp at hu; rw [hu]; rfl) hbig (by rw [World.size_alloc]; omega) ?_; intro v5 w5 ho5 hg5 hb5; have B5 := Lib.hid (BJ.out.grown hg5 (by rw [World.size_alloc]; omega) (fun y hy => (HOJ.out.lt y hy).1)); obtain ⟨a5, c5, rfl, _, _⟩ := (Rd.of_own ho5).form; have HO5 := Lib.hid ho5; clear ho5 hg5 hb5))
                go_roundw
                case rel => exact ⟨i + 1, a5, c5, by go_num, rfl, by omega, by
                  have h5 := HO5.out
                  have e : (L.take (i + 1)).map (Value.int .i64) = (L.take i).map (Value.int .i64) ++ #[Value.int .i64 x].toList := by
                    rw [List.take_succ_eq_append_getElem hlt, HX.out, List.map_append]; rfl
                  rw [e]; exact h5, HND2, B5.out⟩
                case measure => simp [intOf]; omega
        · obtain rfl : L.length = i := by omega
          rw [List.take_length] at HOI HND
          have hdi2 : decide (L.length < L.length) = false := decide_eq_false (Nat.lt_irrefl _)
          have hwi : w1.heap.size ≤ wi.heap.size := si
          have HLI := Lib.hid (HL.out.keptF (Kept.of_below HB1.out))
          have HBI := Lib.hid (HB.out.trans (HB1.out.mono hbw))
          have hbi : b ≤ wi.heap.size := by omega
          have NL := Lib.hid (fun y hy => (HL.out.lt y hy).2)
          clear HL HB HB1
          obtain ⟨i0, hi0, hz0, hs0, hb0⟩ := info_parts info_bo
          have OZ := Lib.hid (Ob.cast (Ob.new wi (madeCells #[Value.bool false] L.length) TBo) (made_bo L.length))
          have HL3 := Lib.hid (HLI.out.keptF ((Kept.refl (fun _ => False) wi).alloc (.cells (madeCells #[Value.bool false] L.length) TBo)))
          have HO3 := Lib.hid (own_kept HOI.out ((Kept.refl (fun _ => False) wi).alloc (.cells (madeCells #[Value.bool false] L.length) TBo)) (fun _ _ hh => hh))
          have B3 := Lib.hid (HBI.out.alloc hbi (.cells (madeCells #[Value.bool false] L.length) TBo))
          have nZ : Hid (¬ LM b mp wi.heap.size) := Lib.hid (fun hh => by have := (HLI.out.lt _ hh).2; omega)
          have nV : Hid (∀ y, (Value.slice na L.length nc).ownBlock = some y → y ≠ wi.heap.size ∧ ¬ LM b mp y) := Lib.hid (fun y hy => by
            have h1 := HOI.out.lt y hy
            exact ⟨by omega, fun hh => by have := NL.out y hh; omega⟩)
          go_wp2_with (refine wpList_make_row _ rfl (.tmp 79) (.tmp 79) _ rfl TBo i0 (.bool false) (by rfl) hi0 hz0 hs0 rfl .i64 .i64 L.length rfl rfl (by rw [hb0]; omega) (by omega) ?_)
          generalize wi.alloc (.cells (madeCells #[Value.bool false] L.length) TBo) = w3 at *
          generalize wi.heap.size = Z at *
          generalize w1.heap.size = B1 at *
          clear HOI HLI HBI hi0 hz0 hs0 hb0
          have hc0 : opn L (u.take 0) = cntI L := by funext k; unfold opn; simp
          rw [← hc0] at HL3
          have hbk0 : Bk L (u.take 0) 0 0 (List.replicate L.length false) := ⟨List.length_replicate, fun q hq => by rw [List.getElem?_replicate, if_pos hq]; simp⟩
          have HBK0 := Lib.hid hbk0
          clear hbk0 hc0
          go_loopw [11, 13] (fun zl zj wr => ∃ (j : Nat) (mp : Option Nat) (U : Int) (G : List Bool), zj = .int .i64 j ∧ zl = .int .i64 (L.length - U) ∧ j ≤ u.length ∧ (0 ≤ U ∧ U ≤ j) ∧ Lo b b mp L.length U (opn L (u.take j)) L.length wr ∧ Ob wr Z (G.map Value.bool).toArray TBo ∧ Hid (Bk L (u.take j) 0 0 G) ∧ wr.ownsRow B1 TNt 1 (.slice na L.length nc) L.length (L.map (Value.int .i64)) ∧ Hid (¬ LM b mp Z) ∧ Hid (∀ y, (Value.slice na L.length nc).ownBlock = some y → y ≠ Z ∧ ¬ LM b mp y) ∧ Below b w wr) (fun _ a _ => u.length - (intOf a).toNat)
          case atStart => exact ⟨0, mp, 0, _, rfl, by simp, Nat.zero_le _, ⟨Int.le_refl _, Int.le_refl _⟩, HL3.out, OZ.out, HBK0, HO3.out, nZ, nV, B3.out⟩
          case round =>
            obtain ⟨j, mp', U, G, rfl, rfl, hj, ⟨hU0, hU1⟩, hlo, hoz, HBK, hno, NZ, NV, hb⟩ := hrel
            rename World => wk
            have HLK := Lib.hid hlo
            have HZK := Lib.hid hoz
            have HNK := Lib.hid hno
            have HBK2 := Lib.hid hb
            have hbk : b ≤ wk.heap.size := by have := hlo.ob.lt; omega
            clear hlo hoz hno hb HL3 OZ HBK0 HO3 B3 nZ nV
            by_cases hju : j < u.length
            · obtain ⟨bo, oo, rfl, c0⟩ := (HU.out.below (by rw [HBZ.out]; exact HBK2.out)).at j hju
              have hdj : decide (j < u.length) = true := decide_eq_true hju
              have hyw := WU.out _ (List.getElem_mem hju)
              have HST := Lib.hid (opn_step (L := L) hju)
              have HUS := Lib.hid (opn_usd (L := L) (u := u.take j) (k := u[j]))
              have HEND := Lib.hid (fun G h => bk_end (L := L) (G := G) hju h 0)
              have hop : 0 ≤ opn L (u.take j) u[j] := by
                unfold opn
                split
                · exact Int.le_refl _
                · exact (cnt_le L _).1
              obtain ⟨y, HY⟩ : ∃ y, Hid (u[j] = y) := ⟨_, Lib.hid rfl⟩
              rw [HY.out] at c0 hyw HST HUS HEND hop
              have hju2 : (j : Int) < u.length := by omega
              go_wp2_with fail
              refine (used_lo b b mp' L.length U (opn L (u.take j)) L.length y _ HLK.out hyw (by omega) hop).mono ?_
              rintro e w5 ⟨rfl, hpo⟩
              rw [HST.out] at hpo
              have hb5 := hpo.below HLK.out
              obtain ⟨mp5, hl5, hk5, hf5⟩ := hpo
              have HL5 := Lib.hid hl5
              have HB5 := Lib.hid (HBK2.out.trans hb5)
              have OZ5 := Lib.hid (HZK.out.kept hk5 NZ.out)
              have HN5 := Lib.hid (own_kept HNK.out hk5 (fun y hy => (NV.out y hy).2))
              have hZl := HZK.out.lt
              have NZ5 : Hid (¬ LM b mp5 Z) := Lib.hid (fun hh => by
                rcases hf5 _ hh with h | h
                · exact NZ.out h
                · omega)
              have NV5 : Hid (∀ y, (Value.slice na L.length nc).ownBlock = some y → y ≠ Z ∧ ¬ LM b mp5 y) := Lib.hid (fun y hy => ⟨(NV.out y hy).1, fun hh => by
                rcases hf5 _ hh with h | h
                · exact (NV.out y hy).2 h
                · have := (HNK.out.lt y hy).2; omega⟩)
              have HBK5 := Lib.hid (bk_other (z := y) HBK.out)
              have hus0 : 0 ≤ usd (opn L (u.take j)) y ∧ usd (opn L (u.take j)) y ≤ 1 := by unfold usd; split <;> omega
              obtain ⟨D, HD⟩ : ∃ D, Hid (usd (opn L (u.take j)) y = D) := ⟨_, Lib.hid rfl⟩
              rw [HD.out] at HL5 hus0 HUS
              clear hl5 hb5 hk5 hf5 c0
              go_wp2_with fail
              go_loopw [11, 14] (fun zl zk wj => ∃ (k : Nat) (G : List Bool), zk = .int .i64 k ∧ zl = .int .i64 (L.length - U - ind (L.take k) (u.take j) y) ∧ k ≤ L.length ∧ Ob wj Z (G.map Value.bool).toArray TBo ∧ Hid (Bk L (u.take j) y k G) ∧ Kept (Only Z) w5 wj) (fun _ a _ => L.length - (intOf a).toNat)
              case atStart => exact ⟨0, G, rfl, by simp [ind], Nat.zero_le _, OZ5.out, HBK5, Kept.refl _ _⟩
              case round =>
                obtain ⟨k, G', rfl, rfl, hk, hoz, HBKk, hkp⟩ := hrel
                rename World => wj
                have HZJ := Lib.hid hoz
                have HKP := Lib.hid hkp
                clear hoz hkp
                by_cases hkl : k < L.length
                · have hkl2 : (k : Int) < L.length := by omega
                  have HBJ := Lib.hid (HB5.out.trans (HKP.out.belowAt (by have := HL5.out.ob.lt; omega) (fun x hx => by rw [show x = Z from hx]; exact hbi)))
                  obtain ⟨bs, os, hes, c0⟩ := (HU.out.below (by rw [HBZ.out]; exact HBJ.out)).at j hju
                  cases hes
                  rw [HY.out] at c0
                  obtain ⟨bn, on, hen, c1⟩ := (Rd.of_own (own_kept HN5.out HKP.out (fun y hy hh => (NV5.out y hy).1 hh))).at k hkl
                  cases hen
                  obtain ⟨lz, cz, fz⟩ := HZJ.out.blk
                  have HG := Lib.hid (bk_at hkl HBKk.out)
                  have c2 : wj.cell? ⟨Z, k, none⟩ = some (.bool (decide (L[k] ∈ u.take j))) := by
                    rw [cz]
                    simp only [List.getElem?_toArray, List.getElem?_map, HG.out, Option.map_some]
                  have hIS := fun h => ind_skip (L := L) (ut := u.take j) (y := y) hkl h (fun h => beq_iff_eq.1 h)
                  have hBS := bk_skip hkl HBKk.out
                  have hBT := bk_set hkl HBKk.out
                  have HIS := Lib.hid hIS
                  have HBS := Lib.hid hBS
                  have HBT := Lib.hid hBT
                  have hlG : G'.length = L.length := HBKk.out.1
                  obtain ⟨gt, HGT⟩ : ∃ gt, Hid (decide (L[k] ∈ u.take j) = gt) := ⟨_, Lib.hid rfl⟩
                  have hNW := fun hy hu => ind_new (L := L) (ut := u.take j) (y := y) hkl HND.out hy hu
                  have HNW := Lib.hid hNW
                  rw [HGT.out] at c2 HIS HBS
                  obtain ⟨xk, HXK⟩ : ∃ xk, Hid (L[k] = xk) := ⟨_, Lib.hid rfl⟩
                  rw [HXK.out] at c1 HIS HBS HBT HNW HGT
                  have hib : 0 ≤ ind (L.take k) (u.take j) y ∧ ind (L.take k) (u.take j) y ≤ 1 := by unfold ind; split <;> omega
                  obtain ⟨I, HI⟩ : ∃ I, Hid (ind (L.take k) (u.take j) y = I) := ⟨_, Lib.hid rfl⟩
                  rw [HI.out] at hib HIS HNW ⊢
                  clear cz hIS hBS hBT hNW
                  by_cases he : xk = y
                  · have hbe : (xk == y) = true := beq_iff_eq.2 he
                    have HE := Lib.hid (And.intro he hbe)
                    cases gt
                    · have hu : ¬ y ∈ u.take j := by rw [← he]; exact of_decide_eq_false HGT.out
                      obtain ⟨hI0, hI1⟩ := HNW.out he hu
                      have HI1 := Lib.hid hI1
                      subst hI0
                      clear he hu
                      go_wp2_with fail
                      refine wp_region_quiet_lit (by kernel_rfl) (by kernel_rfl) ?_
                      try simp only [List.append]
                      repeat (first | go_big_quiet_step (fail) | quiet_step (fail))
                      refine wpQuiet_nil ?_
                      intro W1 hW1
                      have HK1 := Lib.hid (HKP.out.trans (kept_exL hW1 |>.mono (fun _ _ hh => hh.elim)))
                      have HZ1 := Lib.hid (HZJ.out.kept (kept_exL hW1) id)
                      clear hW1 c0 c1 c2 lz fz
                      obtain ⟨lz, cz, fz⟩ := HZ1.out.blk
                      have c2 : W1.cell? ⟨Z, k, none⟩ = some (.bool false) := by
                        rw [cz]
                        simp only [List.getElem?_toArray, List.getElem?_map, HG.out, Option.map_some, HXK.out, HGT.out]
                      clear cz
                      have HZ2 := Lib.hid (Ob.cast (HZ1.out.set k (.bool true)) (show _ = ((G'.set k true).map Value.bool).toArray by rw [List.map_set]; simp))
                      have HK2 := Lib.hid (HK1.out.setO (i := k) (v := .bool true))
                      go_wp2_with fail
                      go_roundw
                      case rel => exact ⟨k + 1, _, by go_num, by rw [HI1.out], by omega, HZ2.out, Lib.hid (HBT.out HE.out.2), HK2.out⟩
                      case measure => simp [intOf]; omega
                    · clear he
                      go_wp2_with fail
                      refine wp_region_quiet_lit (by kernel_rfl) (by kernel_rfl) ?_
                      try simp only [List.append]
                      repeat (first | go_big_quiet_step (fail) | quiet_step (fail))
                      refine wpQuiet_nil ?_
                      intro W1 hW1
                      have HK1 := Lib.hid (HKP.out.trans (kept_exL hW1 |>.mono (fun _ _ hh => hh.elim)))
                      have HZ1 := Lib.hid (HZJ.out.kept (kept_exL hW1) id)
                      clear hW1 c0 c1 c2 lz fz
                      go_wp2_with fail
                      go_roundw
                      case rel => exact ⟨k + 1, _, by go_num, by rw [HIS.out (.inr trivial)], by omega, HZ1.out, Lib.hid (HBS.out (.inr trivial)), HK1.out⟩
                      case measure => simp [intOf]; omega
                  · have hbe : (xk == y) = false := beq_eq_false_iff_ne.2 he
                    have HE := Lib.hid hbe
                    clear he
                    go_wp2_with fail
                    refine wp_region_quiet_lit (by kernel_rfl) (by kernel_rfl) ?_
                    try simp only [List.append]
                    repeat (first | go_big_quiet_step (fail) | quiet_step (fail))
                    refine wpQuiet_nil ?_
                    intro W1 hW1
                    have HK1 := Lib.hid (HKP.out.trans (kept_exL hW1 |>.mono (fun _ _ hh => hh.elim)))
                    have HZ1 := Lib.hid (HZJ.out.kept (kept_exL hW1) id)
                    clear hW1 c0 c1 c2 lz fz
                    go_wp2_with fail
                    go_roundw
                    case rel => exact ⟨k + 1, _, by go_num, by rw [HIS.out (.inl HE.out)], by omega, HZ1.out, Lib.hid (HBS.out (.inl HE.out)), HK1.out⟩
                    case measure => simp [intOf]; omega
                · obtain rfl : L.length = k := by omega
                  rw [List.take_length]
                  have HI : Hid (ind L (u.take j) y = D) := Lib.hid HUS.out.symm
                  rw [HI.out]
                  go_wp2_with fail
                  go_roundw
                  case rel => exact ⟨j + 1, mp5, U + D, G', by go_num, by rw [Int.sub_sub], by omega, ⟨by omega, by omega⟩, HL5.out.kept HKP.out (fun x hx hh => NZ5.out (by rw [← show x = Z from hh]; exact hx)), HZJ.out, Lib.hid (HEND.out _ HBKk.out), own_kept HN5.out HKP.out (fun y hy hh => (NV5.out y hy).1 hh), NZ5, NV5, HB5.out.trans (HKP.out.belowAt (by have := HL5.out.ob.lt; omega) (fun x hx => by rw [show x = Z from hx]; exact hbi))⟩
                  case measure => simp [intOf]; omega
            · obtain rfl : u.length = j := by omega
              have hdj : decide (u.length < u.length) = false := decide_eq_false (Nat.lt_irrefl _)
              rw [List.take_length] at HLK
              go_wp2_with fail
              refine (window_lo b b mp' L.length U _ L.length _ HLK.out (by omega) (by omega)).mono ?_
              rintro e w5 ⟨rfl, hpo⟩
              have hb5 := hpo.below HLK.out
              obtain ⟨mp5, hl5, _⟩ := hpo
              have HL5 := Lib.hid hl5
              have HB5 := Lib.hid (HBK2.out.trans hb5)
              clear hl5 hb5
              go_wp2_with fail
              refine (window_lo b b mp5 0 0 _ 0 _ HL5.out (by decide) (by decide)).mono ?_
              rintro e w6 ⟨rfl, hpo⟩
              have hb6 := hpo.below HL5.out
              obtain ⟨mp6, hl6, _⟩ := hpo
              have HB6 := Lib.hid (HB5.out.trans hb6)
              have s6 : b ≤ w6.heap.size := by have := hl6.ob.lt; omega
              clear hl6 hb6
              go_wp2_with fail
              refine (sentnil 1 _).mono ?_
              rintro e w7 ⟨rfl, rfl⟩
              go_wp2_with fail
              refine (windownil _).mono ?_
              rintro e w7 ⟨rfl, rfl⟩
              go_wp2_with fail
              refine (upnil 1 1 _).mono ?_
              rintro e w7 ⟨rfl, rfl⟩
              go_wp2_with fail
              refine (ratenil _).mono ?_
              rintro e w7 ⟨rfl, rfl⟩
              go_wp2_with fail
              refine (aggrnil _).mono ?_
              rintro e w7 ⟨rfl, rfl⟩
              go_wp2_with fail
              refine (risesnil _).mono ?_
              rintro e w7 ⟨rfl, rfl⟩
              go_wp2_with fail
              refine (of_ref 1 _).mono ?_
              rw [show ofI 1 = 65536 by decide]
              rintro e w7 ⟨rfl, rfl⟩
              go_wp2_with fail
              refine (awake_any _).mono ?_
              rintro e w8 ⟨rfl, hb8⟩
              go_wp2_with fail
              go_ret
              refine ⟨by simp, ?_⟩
              rw [HBZ.out]
              exact HB6.out.trans (hb8.mono s6)
set_option maxRecDepth 100000 in
theorem loss_any (L u : List Int) (v y : Value) (w : World) (h : Rd w 1 v L.length (L.map (Value.int .i64))) (h' : Rd w 1 y u.length (u.map (Value.int .i64))) (wL : ∀ x ∈ L, I64 x) (wu : ∀ x ∈ u, I64 x) : Calls Try.prog 5 #[v, y] w (TrueBelow w) := by
  by_cases hc : L.length ≤ 60 ∧ u.length ≤ 60
  · exact loss_in L u v y w h h' hc.1 hc.2 wL wu
  · obtain ⟨a, ca, rfl, _, _⟩ := h.form
    obtain ⟨d, cd, rfl, _, _⟩ := h'.form
    clear h h' wL wu
    rcases (by omega : 60 < L.length ∨ (L.length ≤ 60 ∧ 60 < u.length)) with h | ⟨h, h2⟩
    all_goals
      clear hc
      go_enter Try.func5, Try.ntmps5
      go_wp2_with fail
      refine (awake_any _).mono ?_
      rintro e w2 ⟨rfl, hb⟩
      go_wp2_with fail
      go_ret
      exact ⟨rfl, hb⟩
end Go.Proofs.Ytocopgmbfmechaa
