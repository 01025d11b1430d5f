/- Who waits (chapter 18): the document's Want. -/
import Derived.Test.YtohjnplhmbfjlaaPuT
namespace Go.Proofs.Ytohjnplhmbfjlaa
open Go.RowKit

def insr (l : List Rf) (i : Nat) (x : Rf) : List Rf := l.take i ++ [x] ++ l.drop i
theorem insr_len {l : List Rf} {i : Nat} (h : i ≤ l.length) (x : Rf) : (insr l i x).length = l.length + 1 := by
  unfold insr
  rw [List.length_append, List.length_append, List.length_take, List.length_drop]; simp; omega
theorem insr_set {l : List Rf} {i : Nat} (h : i ≤ l.length) (x y : Rf) : (insr l i x).set i y = insr l i y := by
  have ht : (l.take i).length = i := by rw [List.length_take]; omega
  unfold insr
  rw [List.append_assoc, List.set_append_right _ _ (by omega), ht, Nat.sub_self, List.append_assoc]
  rfl
theorem insr_get {l : List Rf} {i : Nat} (h : i ≤ l.length) (x : Rf) (hi : i < (insr l i x).length) : (insr l i x)[i] = x := by
  have ht : (l.take i).length = i := by rw [List.length_take]; omega
  unfold insr
  simp only [List.append_assoc]
  rw [List.getElem_append_right (by omega)]
  simp [ht]
theorem insr_before {l : List Rf} {i : Nat} (h : i < l.length) (x : Rf) (hi : i < (insr l (i + 1) x).length) : (insr l (i + 1) x)[i] = l[i] := by
  unfold insr
  simp only [List.append_assoc]
  rw [List.getElem_append_left (by rw [List.length_take]; omega), List.getElem_take]
theorem insr_shift {l : List Rf} {i : Nat} (h : i < l.length) (y : Rf) : (insr l (i + 1) y).set (i + 1) l[i] = insr l i l[i] := by
  rw [insr_set (by omega)]
  unfold insr
  rw [List.take_succ_eq_append_getElem h]
  conv => rhs; rw [List.drop_eq_getElem_cons h]
  simp
theorem insr_end (l : List Rf) (x : Rf) : insr l l.length x = l ++ [x] := by
  unfold insr
  simp
theorem row_set4 {x : Rf} : ∀ {l : List Rf} {i : Nat}, i < l.length → ((((l.flatMap Rf.row).set (i * 4) (.int .i64 x.pe)).set (i * 4 + 1) (.int .u64 x.id)).set (i * 4 + 2) (.int .i64 x.wt)).set (i * 4 + 3) (.int .i64 x.ct) = (l.set i x).flatMap Rf.row
  | a :: l, 0, _ => rfl
  | a :: l, i + 1, hi => by
    have ih := row_set4 (x := x) (l := l) (i := i) (by simpa using hi)
    show ((((a.row ++ l.flatMap Rf.row).set ((i + 1) * 4) _).set ((i + 1) * 4 + 1) _).set ((i + 1) * 4 + 2) _).set ((i + 1) * 4 + 3) _ = a.row ++ (l.set i x).flatMap Rf.row
    rw [← ih]
    have e : ∀ (m : List Value) (j : Nat) (u : Value), (a.row ++ m).set ((i + 1) * 4 + j) u = a.row ++ m.set (i * 4 + j) u := fun m j u => by
      rw [List.set_append_right _ _ (by rw [rowRf]; omega), rowRf]
      congr 2
      omega
    have e0 : ∀ (m : List Value) (u : Value), (a.row ++ m).set ((i + 1) * 4) u = a.row ++ m.set (i * 4) u := fun m u => e m 0 u
    rw [e0, e, e, e]
theorem own_set4 {w : World} {B g c : Nat} {l : List Rf} {i : Nat} (x : Rf) (h : w.ownsRow B TRf 4 (.slice (some ⟨g, 0, none⟩) l.length c) l.length (l.flatMap Rf.row)) (hi : i < l.length) :
    ((((w.setCell ⟨g, i * 4, none⟩ (.int .i64 x.pe)).setCell ⟨g, i * 4 + 1, none⟩ (.int .u64 x.id)).setCell ⟨g, i * 4 + 2, none⟩ (.int .i64 x.wt)).setCell ⟨g, i * 4 + 3, none⟩ (.int .i64 x.ct)).ownsRow B TRf 4 (.slice (some ⟨g, 0, none⟩) (l.set i x).length c) (l.set i x).length ((l.set i x).flatMap Rf.row) := by
  rw [← row_set4 hi, List.length_set]
  exact own_setK (own_setK (own_setK (own_setK h _ _) _ _) _ _) _ _
theorem row_set1 {x : Rf} {u : Value} : ∀ {l : List Rf} {i j : Nat} (hi : i < l.length), j < 4 → x.row = l[i].row.set j u → (l.flatMap Rf.row).set (i * 4 + j) u = (l.set i x).flatMap Rf.row
  | a :: l, 0, j, _, hj, hx => by
    show (a.row ++ l.flatMap Rf.row).set (0 * 4 + j) u = x.row ++ l.flatMap Rf.row
    have hx : x.row = a.row.set j u := hx
    rw [hx, Nat.zero_mul, Nat.zero_add, List.set_append_left _ _ (by rw [rowRf]; omega)]
  | a :: l, i + 1, j, hi, hj, hx => by
    show (a.row ++ l.flatMap Rf.row).set ((i + 1) * 4 + j) u = a.row ++ (l.set i x).flatMap Rf.row
    rw [List.set_append_right _ _ (by rw [rowRf]; omega), rowRf, show (i + 1) * 4 + j - 4 = i * 4 + j by omega]
    exact congrArg (a.row ++ ·) (row_set1 (by simpa using hi) hj hx)
def rlt (p id : Int) (x : Rf) : Prop := x.pe < p ∨ (x.pe = p ∧ x.id < id)
def Rf.more (n : Int) (x : Rf) : Rf := { x with wt := min (x.wt + n) 1073741824 }
/-- what Want makes of the list -/
def RWant (s : Rs) (p id n : Int) (c : Int) (l' : List Rf) : Prop :=
  match s.l.findIdx? (Rf.is p id) with
  | some k => c = 0 ∧ ∃ h : k < s.l.length, l' = s.l.set k (Rf.more n s.l[k])
  | .none => (s.most ≤ s.l.length ∧ c = 4 ∧ l' = s.l) ∨ (¬ s.most ≤ s.l.length ∧ c = 0 ∧ ∃ k, k ≤ s.l.length ∧ (∀ q, (hq : q < s.l.length) → q < k → rlt p id s.l[q]) ∧ (∀ h : k < s.l.length, ¬ rlt p id s.l[k]) ∧ l' = insr s.l k ⟨p, id, n, 0⟩)
theorem rwantno (q : Option Addr) (p id n : Int) (w : World) (h : ¬ okWant p id n) : Calls Try.prog 12 #[.pointer q, .int .i64 p, .int .u64 id, .int .i64 n] w fun e w' => e = .returned (.int .i64 1) ∧ w = w' := by
  unfold okWant at h
  rcases (by omega : p < 0 ∨ (0 ≤ p ∧ 7 < p) ∨ ((0 ≤ p ∧ p ≤ 7) ∧ id < 1) ∨ ((0 ≤ p ∧ p ≤ 7) ∧ 1 ≤ id ∧ 1152921504606846976 < id) ∨ ((0 ≤ p ∧ p ≤ 7) ∧ (1 ≤ id ∧ id ≤ 1152921504606846976) ∧ n < 1) ∨ ((0 ≤ p ∧ p ≤ 7) ∧ (1 ≤ id ∧ id ≤ 1152921504606846976) ∧ 1 ≤ n ∧ 1000000 < n)) with h1 | ⟨h1, h2⟩ | ⟨⟨h1, h2⟩, h3⟩ | ⟨⟨h1, h2⟩, h3, h4⟩ | ⟨⟨h1, h2⟩, ⟨h3, h4⟩, h5⟩ | ⟨⟨h1, h2⟩, ⟨h3, h4⟩, h5, h6⟩
  all_goals
    clear h
    go_enter Try.func12, Try.ntmps12
    go_wp2_with fail
    go_ret
    exact ⟨rfl, rfl⟩
set_option maxRecDepth 100000 in
set_option maxHeartbeats 8000000 in
theorem rwant (b B0 : Nat) (V : Value) (s : Rs) (p id n : Int) (w : World) (h : Rp b B0 V s w) (hl : s.l.length ≤ 1000000) (hok : ∀ x ∈ s.l, RfOk x) (hq : okWant p id n) :
    Calls Try.prog 12 #[.pointer (some ⟨b, 0, none⟩), .int .i64 p, .int .u64 id, .int .i64 n] w fun e w' => ∃ c l', RWant s p id n c l' ∧ e = .returned (.int .i64 c) ∧ RpPost b B0 V { s with l := l' } w w' := by
  have HP := Lib.hid h
  have HO := Lib.hid hok
  obtain ⟨⟨h1, h2⟩, ⟨h3, h4⟩, h5, h6⟩ := hq
  have h2' : p ≤ 7 := by omega
  obtain ⟨lb, cb, fb⟩ := h.ob.blk
  have c1 : w.cell? ⟨b, 1, none⟩ = some V := cb 1
  have c0 : w.cell? ⟨b, 0, none⟩ = some (.int .i64 s.most) := cb 0
  have HR := Lib.hid (Rd.of_own h.own)
  obtain ⟨a, c, hv, hlc, hcm⟩ := HR.out.form
  rw [hv] at c1 HR
  have HV := Lib.hid hv
  clear cb h hv hok
  go_enter Try.func12, Try.ntmps12
  go_wp2_with fail
  refine (rfind b B0 V s p id _ HP.out hl).mono ?_
  rintro e w1 ⟨rfl, rfl⟩
  have E0 := Lib.hid (World.ownsRow_made (base := w.heap.size) (e := TRf) (size := 4) w #[] 0 (by simp) (by decide) rfl)
  have R0 := Lib.hid (HR.out.alloc (.cells #[] TRf))
  obtain ⟨fi, HF⟩ : ∃ fi, Hid (s.l.findIdx? (Rf.is p id) = fi) := ⟨_, Lib.hid rfl⟩
  rw [HF.out]
  go_upto_if 45 with (at_builtin; (refine wpList_appAt rfl (.tmp 38) (.tmp 42) 36 rfl info_rf Try.underlying36 rfl (by decide) E0.out R0.out rfl rfl (one_rf _) (by omega) (by rw [World.size_alloc]; omega) ?_; intro v4 w4 ho4 hg4 hb4; have B4 := Lib.hid (((Below.refl w.heap.size w).alloc (Nat.le_refl _) (.cells #[] TRf)).grown hg4 (by rw [World.size_alloc]; omega) (fun y hy => (E0.out.lt y hy).1)); rw [Nat.zero_add, List.nil_append] at ho4; obtain ⟨a4, c4, rfl, _, _⟩ := (Rd.of_own ho4).form; have HO4 := Lib.hid ho4; clear ho4 hg4 hb4))
  clear E0 R0 c1 c0 lb fb
  have HP4 := Lib.hid (HP.out.below B4.out)
  obtain ⟨lb, cb, fb⟩ := HP4.out.ob.blk
  have c0 : w4.cell? ⟨b, 0, none⟩ = some (.int .i64 s.most) := cb 0
  clear cb
  go_cut [9, 10] from 44 to 111 (fun s9 s10 wx => ∃ (k : Nat) (L : List Rf) (a : Option Addr) (c : Nat), s9 = .int .i64 k ∧ s10 = .slice a L.length c ∧ k < L.length ∧ L.length ≤ 1000001 ∧ wx.ownsRow w.heap.size TRf 4 (.slice a L.length c) L.length (L.flatMap Rf.row) ∧ Below w.heap.size w wx ∧ (∀ h : k < L.length, 0 ≤ L[k].wt ∧ L[k].wt ≤ 1073741824) ∧ Hid (∀ h : k < L.length, RWant s p id n 0 (L.set k (Rf.more n L[k]))))
  case first =>
    cases fi with
    | some k =>
      have hlt := idx_lt HF.out
      simp only [optI]
      go_wp2_with fail
      go_meet
      refine ⟨k, s.l, a4, c4, rfl, rfl, hlt, by omega, HO4.out, B4.out, fun h => HO.out _ (List.getElem_mem h), Lib.hid (fun h => ?_)⟩
      unfold RWant
      rw [HF.out]
      exact ⟨rfl, h, rfl⟩
    | none =>
      simp only [optI]
      by_cases hm : s.most ≤ s.l.length
      · go_wp2_with fail
        go_ret
        exact ⟨4, s.l, by unfold RWant; rw [HF.out]; exact .inl ⟨hm, rfl, rfl⟩, rfl, V, HP4.out, Kept.of_below B4.out, fun _ hh => .inl hh⟩
      · go_upto_block 0 with fail
        go_cut [9] from 53 to 85 (fun s9 wx => ∃ k : Nat, s9 = .int .i64 k ∧ k ≤ s.l.length ∧ Hid (∀ q, (hq : q < s.l.length) → q < k → rlt p id s.l[q]) ∧ Hid (∀ h : k < s.l.length, ¬ rlt p id s.l[k]) ∧ wx = w4)
        case first =>
          go_wp2_with fail
          go_loopw [9] (fun i wr => ∃ k : Nat, i = .int .i64 k ∧ k ≤ s.l.length ∧ Hid (∀ q, (hq : q < s.l.length) → q < k → rlt p id s.l[q]) ∧ w4 = wr) (fun i _ => s.l.length - (intOf i).toNat)
          case atStart => exact ⟨0, rfl, Nat.zero_le _, Lib.hid (fun q _ h => by omega), rfl⟩
          case round =>
            obtain ⟨k, rfl, hk, HA, rfl⟩ := hrel
            by_cases hlt : k < s.l.length
            · obtain ⟨g, o, rfl, hg, cw⟩ := Rd.row rowRf (by decide) (Rd.of_own HO4.out) k hlt
              obtain ⟨x, HX⟩ : ∃ x, Hid (s.l[k] = x) := ⟨_, Lib.hid rfl⟩
              rw [HX.out] at cw
              have cf0 := cw 0 (.int .i64 x.pe) rfl
              have cf1 := cw 1 (.int .u64 x.id) rfl
              rw [Nat.add_zero] at cf0
              have hdk : decide (k < s.l.length) = true := decide_eq_true hlt
              clear cw
              rcases (by omega : x.pe < p ∨ (x.pe = p ∧ x.id < id) ∨ (p < x.pe) ∨ (x.pe = p ∧ id ≤ x.id)) with h | ⟨h, h'⟩ | h | ⟨h, h'⟩
              · have hd : decide (x.pe < p) = true := decide_eq_true h
                have HL := Lib.hid (show rlt p id x from .inl h)
                go_wp2_with fail
                go_roundw
                case rel => exact ⟨k + 1, by go_num, by omega, Lib.hid (fun q hq hqk => by
                  rcases Nat.lt_or_ge q k with h | h
                  · exact HA.out q hq h
                  · obtain rfl : q = k := by omega
                    rw [HX.out]; exact HL.out), trivial⟩
                case measure => simp [intOf]; omega
              · have hd : decide (x.pe < p) = false := decide_eq_false (by omega)
                have hb1 : (x.pe == p) = true := beq_iff_eq.2 h
                have hd2 : decide (x.id < id) = true := decide_eq_true h'
                have HL := Lib.hid (show rlt p id x from .inr ⟨h, h'⟩)
                clear h
                go_wp2_with fail
                go_roundw
                case rel => exact ⟨k + 1, by go_num, by omega, Lib.hid (fun q hq hqk => by
                  rcases Nat.lt_or_ge q k with h | h
                  · exact HA.out q hq h
                  · obtain rfl : q = k := by omega
                    rw [HX.out]; exact HL.out), trivial⟩
                case measure => simp [intOf]; omega
              · have hd : decide (x.pe < p) = false := decide_eq_false (by omega)
                have hb1 : (x.pe == p) = false := beq_eq_false_iff_ne.2 (by omega)
                have HL := Lib.hid (show ¬ rlt p id x from fun hh => by rcases hh with hh | ⟨hh, _⟩ <;> omega)
                go_wp2_with fail
                go_meet
                exact ⟨k, rfl, hk, HA, Lib.hid (fun _ => by rw [HX.out]; exact HL.out), rfl⟩
              · have hd : decide (x.pe < p) = false := decide_eq_false (by omega)
                have hb1 : (x.pe == p) = true := beq_iff_eq.2 h
                have hd2 : decide (x.id < id) = false := decide_eq_false (by omega)
                have HL := Lib.hid (show ¬ rlt p id x from fun hh => by rcases hh with hh | ⟨_, hh⟩ <;> omega)
                clear h
                go_wp2_with fail
                go_meet
                exact ⟨k, rfl, hk, HA, Lib.hid (fun _ => by rw [HX.out]; exact HL.out), rfl⟩
            · obtain rfl : s.l.length = k := by omega
              have hdk : decide (s.l.length < s.l.length) = false := decide_eq_false (Nat.lt_irrefl _)
              go_wp2_with fail
              go_meet
              exact ⟨s.l.length, rfl, Nat.le_refl _, HA, Lib.hid (fun h => absurd h (Nat.lt_irrefl _)), rfl⟩
        case rest =>
          obtain ⟨k, rfl, hk, HA, HN, hwc⟩ := hcut
          have hwc := hwc.symm
          subst hwc
          have s4 := B4.out.size
          have hown := Lib.hid (own_kept HO4.out ((Kept.refl (fun _ => False) w4).alloc (.cells #[.int .i64 0, .int .u64 0, .int .i64 0, .int .i64 0] TRf)) (fun _ _ hh => hh))
          have R1 := Lib.hid (Rd.one (k := 4) w4 #[.int .i64 0, .int .u64 0, .int .i64 0, .int .i64 0] TRf rfl)
          have hbig : (s.l.length + 1) * 32 ≤ 140737488355328 := by omega
          go_upto_region 12 with (at_builtin; (refine wpList_appAt rfl (.tmp 86) (.tmp 88) 36 rfl info_rf Try.underlying36 rfl (by decide) hown.out R1.out rfl rfl (fun u hu => by simp at hu; rcases hu with rfl | rfl | rfl | rfl <;> rfl) hbig (by rw [World.size_alloc]; omega) ?_; intro v5 w5 ho5 hg5 hb5; have B5 := Lib.hid ((B4.out.alloc s4 (.cells #[.int .i64 0, .int .u64 0, .int .i64 0, .int .i64 0] TRf)).grown hg5 (by rw [World.size_alloc]; omega) (fun y hy => (own_lt hown.out y hy).1)); clear hg5 hb5))
          obtain ⟨g, c5, hv5, hlc5⟩ := own_some ho5 (Nat.succ_pos _)
          subst hv5
          have hz0 : s.l.flatMap Rf.row ++ #[Value.int .i64 0, .int .u64 0, .int .i64 0, .int .i64 0].toList = (insr s.l s.l.length ⟨0, 0, 0, 0⟩).flatMap Rf.row := by
            rw [insr_end, List.flatMap_append]; rfl
          rw [hz0] at ho5
          have HO5 := Lib.hid ho5
          clear ho5 hz0 hown R1 HO4 B4
          have hkl : (k : Int) ≤ s.l.length := by omega
          go_wp2_with fail
          go_loopw [11] (fun i wr => ∃ (j : Nat) (y : Rf), i = .int .i64 j ∧ k ≤ j ∧ j ≤ s.l.length ∧ wr.ownsRow w.heap.size TRf 4 (.slice (some ⟨g, 0, none⟩) (s.l.length + 1) c5) (s.l.length + 1) ((insr s.l j y).flatMap Rf.row) ∧ Below w.heap.size w wr) (fun i _ => (intOf i).toNat)
          case atStart => exact ⟨s.l.length, _, by simp, hk, Nat.le_refl _, HO5.out, B5.out⟩
          case round =>
            obtain ⟨j, y, rfl, hkj, hjl, ho, hb⟩ := hrel
            rename World => wi
            have HOI := Lib.hid ho
            have HBI := Lib.hid hb
            clear ho hb HO5 B5
            have hln := insr_len hjl y
            have hrd := Rd.of_own HOI.out
            rw [← hln] at hrd
            obtain ⟨_, _, _, _, cs, hrw, _, _⟩ := own_row HOI.out
            have hfz := fun i => hrw.free i
            have hgB := (own_lt HOI.out g rfl).1
            clear hrw
            by_cases hlt : k < j
            · obtain ⟨j, rfl⟩ : ∃ q, j = q + 1 := ⟨j - 1, by omega⟩
              have hjs : j < s.l.length := by omega
              obtain ⟨_, _, he, hg, cw⟩ := Rd.row rowRf (by decide) hrd j (by omega)
              cases he
              obtain ⟨_, _, he, _, cy⟩ := Rd.row rowRf (by decide) hrd (j + 1) (by omega)
              cases he
              rw [insr_before hjs] at cw
              rw [insr_get hjl] at cy
              obtain ⟨x, HX⟩ : ∃ x, Hid (s.l[j] = x) := ⟨_, Lib.hid rfl⟩
              rw [HX.out] at cw
              have cf0 := cw 0 (.int .i64 x.pe) rfl
              have cf1 := cw 1 (.int .u64 x.id) rfl
              have cf2 := cw 2 (.int .i64 x.wt) rfl
              have cf3 := cw 3 (.int .i64 x.ct) rfl
              have cy0 := cy 0 (.int .i64 y.pe) rfl
              have cy1 := cy 1 (.int .u64 y.id) rfl
              have cy2 := cy 2 (.int .i64 y.wt) rfl
              have cy3 := cy 3 (.int .i64 y.ct) rfl
              rw [Nat.zero_add] at cf0 cf1 cf2 cf3 cy0 cy1 cy2 cy3
              rw [Nat.add_zero] at cf0 cy0
              have hkj2 : (k : Int) < ((j + 1 : Nat) : Int) := by omega
              have hj2 : ((j + 1 : Nat) : Int) ≤ s.l.length := by omega
              have hset := own_set4 (g := g) (c := c5) x (show wi.ownsRow w.heap.size TRf 4 (.slice (some ⟨g, 0, none⟩) (insr s.l (j + 1) y).length c5) (insr s.l (j + 1) y).length ((insr s.l (j + 1) y).flatMap Rf.row) by rw [hln]; exact HOI.out) (i := j + 1) (by omega)
              have hsh := insr_shift hjs y
              rw [HX.out] at hsh
              rw [hsh, insr_len (by omega)] at hset
              have HS := Lib.hid hset
              have HBS := Lib.hid ((((HBI.out.setCell (p := ⟨g, (j + 1) * 4, none⟩) hgB (.int .i64 x.pe)).setCell (p := ⟨g, (j + 1) * 4 + 1, none⟩) hgB (.int .u64 x.id)).setCell (p := ⟨g, (j + 1) * 4 + 2, none⟩) hgB (.int .i64 x.wt)).setCell (p := ⟨g, (j + 1) * 4 + 3, none⟩) hgB (.int .i64 x.ct))
              clear cw cy hset hsh hrd
              go_wp2_with fail
              go_roundw
              case rel => exact ⟨j, x, by go_num, by omega, by omega, HS.out, HBS.out⟩
              case measure => simp [intOf]
            · obtain rfl : k = j := by omega
              obtain ⟨_, _, he, hg, cy⟩ := Rd.row rowRf (by decide) hrd k (by omega)
              cases he
              rw [insr_get hjl] at cy
              have cy0 := cy 0 (.int .i64 y.pe) rfl
              have cy1 := cy 1 (.int .u64 y.id) rfl
              have cy2 := cy 2 (.int .i64 y.wt) rfl
              have cy3 := cy 3 (.int .i64 y.ct) rfl
              rw [Nat.zero_add] at cy0 cy1 cy2 cy3
              rw [Nat.add_zero] at cy0
              have hset := own_set4 (g := g) (c := c5) ⟨p, id, 0, 0⟩ (show wi.ownsRow w.heap.size TRf 4 (.slice (some ⟨g, 0, none⟩) (insr s.l k y).length c5) (insr s.l k y).length ((insr s.l k y).flatMap Rf.row) by rw [hln]; exact HOI.out) (i := k) (by omega)
              rw [insr_set hjl] at hset
              have HS := Lib.hid hset
              have HBS := Lib.hid ((((HBI.out.setCell (p := ⟨g, k * 4, none⟩) hgB (.int .i64 p)).setCell (p := ⟨g, k * 4 + 1, none⟩) hgB (.int .u64 id)).setCell (p := ⟨g, k * 4 + 2, none⟩) hgB (.int .i64 0)).setCell (p := ⟨g, k * 4 + 3, none⟩) hgB (.int .i64 0))
              have HLN := Lib.hid (insr_len hjl (⟨p, id, 0, 0⟩ : Rf))
              clear cy hset hrd hln
              go_wp2_with fail
              go_meet
              refine ⟨k, insr s.l k ⟨p, id, 0, 0⟩, some ⟨g, 0, none⟩, c5, rfl, by rw [HLN.out], by rw [HLN.out]; omega, by rw [HLN.out]; omega, HS.out, HBS.out, fun h => ?_, Lib.hid (fun h => ?_)⟩
              · rw [insr_get hjl]
                show (0 : Int) ≤ 0 ∧ (0 : Int) ≤ 1073741824
                omega
              · rw [insr_get hjl, insr_set hjl]
                unfold RWant
                rw [HF.out]
                have hmn : min (0 + n) 1073741824 = n := by omega
                refine .inr ⟨by omega, rfl, k, hjl, HA.out, HN.out, ?_⟩
                simp only [Rf.more, hmn]
  case rest =>
    obtain ⟨k, L, a5, c5, rfl, rfl, hkL, hL1, ho5, hb5, hwt, HW⟩ := hcut
    obtain ⟨g, c6, hv5, _⟩ := own_some ho5 (by omega)
    cases hv5
    have HO5 := Lib.hid ho5
    have HB5 := Lib.hid hb5
    obtain ⟨q1, q2⟩ := hwt hkL
    have hrd := Rd.of_own ho5
    obtain ⟨_, _, he, hg, cw⟩ := Rd.row rowRf (by decide) hrd k hkL
    cases he
    obtain ⟨_, _, _, _, cs, hrw, _, _⟩ := own_row ho5
    have hfz := fun i => hrw.free i
    have hgB := (own_lt ho5 g rfl).1
    obtain ⟨x, HX⟩ : ∃ x, Hid (L[k] = x) := ⟨_, Lib.hid rfl⟩
    rw [HX.out] at cw q1 q2
    have cf2 := cw 2 (.int .i64 x.wt) rfl
    rw [Nat.zero_add] at cf2
    have hww : IntKind.i64.wrap (x.wt + n) = x.wt + n := by rw [IntKind.wrap_i64]; omega
    have HP5 := HP.out.below hb5
    clear lb c0 fb
    obtain ⟨lb, cb, fb⟩ := HP5.ob.blk
    have c1 : wc.cell? ⟨b, 1, none⟩ = some V := cb 1
    have hbg : b ≠ g := by have := HP.out.ob.lt; omega
    have hgb : g ≠ b := fun e => hbg e.symm
    have ho6 := own_setK HO5.out (k * 4 + 2) (.int .i64 (min (x.wt + n) 1073741824))
    rw [row_set1 (x := Rf.more n x) hkL (by decide) (by rw [HX.out]; rfl)] at ho6
    have hb6 := HB5.out.setCell (p := ⟨g, k * 4 + 2, none⟩) hgB (.int .i64 (min (x.wt + n) 1073741824))
    have HPO := Lib.hid (rp_store (V' := .slice (some ⟨g, 0, none⟩) L.length c5) (l' := L.set k (Rf.more n x)) HP.out hb6 (by rw [List.length_set]; exact ho6))
    clear cb cw hrd hrw ho5 hb5 hwt HP5 ho6 hb6
    go_wp2_with fail
    go_ret
    refine ⟨0, L.set k (Rf.more n x), ?_, rfl, HPO.out⟩
    have h := HW.out hkL
    rw [HX.out] at h
    exact h
end Go.Proofs.Ytohjnplhmbfjlaa
