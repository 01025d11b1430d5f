/- Who waits (chapter 18): New; Want. -/
import Derived.Test.YtohjnplhmbfjlaaPuA
import Derived.Deep.CutBlock
namespace Go.Proofs.Ytohjnplhmbfjlaa
open Go.RowKit

theorem kept_ex {w W : World} (h : ∃ n, W = w.drewN n) : Kept (fun _ => False) w W := by
  obtain ⟨n, rfl⟩ := h
  exact Kept.dn _ _ _
theorem kept_any {M : Nat → Prop} {w w' : World} (h : Kept (fun _ => False) w w') : Kept M w w' := h.mono fun _ _ hh => hh.elim
def cnt (L : Nat → List Fl) : Nat := (L 0).length + (L 1).length + (L 2).length + (L 3).length + (L 4).length + (L 5).length + (L 6).length + (L 7).length
theorem cnt_upd (L : Nat → List Fl) {p : Nat} (h : p < 8) (l : List Fl) : cnt (upd L p l) + (L p).length = cnt L + l.length := by
  rcases eight h with rfl | rfl | rfl | rfl | rfl | rfl | rfl | rfl
  all_goals
    simp only [cnt, upd, if_true, if_false, Nat.reduceEqDiff]
    omega
theorem cnt_ge (L : Nat → List Fl) {p : Nat} (h : p < 8) : (L p).length ≤ cnt L := by
  rcases eight h with rfl | rfl | rfl | rfl | rfl | rfl | rfl | rfl
  all_goals
    simp only [cnt]
    omega
def FlOk (N : Int) (x : Fl) : Prop := 1 ≤ x.id ∧ x.id ≤ 1152921504606846976 ∧ 0 ≤ x.wt ∧ x.wt ≤ 1073741824 ∧ 0 ≤ x.pl ∧ x.pl ≤ N
structure Ps.ok (s : Ps) (N : Int) : Prop where
  up : ∀ p, p < 8 → (s.L p).Pairwise (fun x y => x.id < y.id)
  fl : ∀ p, p < 8 → ∀ x ∈ s.L p, FlOk N x
  kn : s.known = cnt s.L
  m0 : 1 ≤ s.most
  m1 : s.most ≤ 10000
  km : s.known ≤ s.most
  la : 0 ≤ s.last ∧ s.last ≤ 8
  z : ∀ p, p < 8 → 0 ≤ s.Z p ∧ s.Z p ≤ 1152921504606846976
theorem Ps.ok.len {s : Ps} {N : Int} (h : s.ok N) {p : Nat} (hp : p < 8) : (s.L p).length ≤ 10000 := by
  have := cnt_ge s.L hp; have := h.kn; have := h.km; have := h.m1; omega
def empty (most : Int) : Ps := ⟨most, 0, 0, fun _ => [], fun _ => 0⟩
theorem empty_ok {most N : Int} (h0 : 1 ≤ most) (h1 : most ≤ 10000) : (empty most).ok N := ⟨fun _ _ => List.Pairwise.nil, fun _ _ x hx => (by cases hx), rfl, h0, h1, by show (0 : Int) ≤ most; omega, ⟨by show (0 : Int) ≤ 0; omega, by show (0 : Int) ≤ 8; omega⟩, fun _ _ => ⟨by show (0 : Int) ≤ 0; omega, by show (0 : Int) ≤ _; omega⟩⟩
theorem new_pu (most : Int) (w : World) (h : 1 ≤ most ∧ most ≤ 10000) : Calls Try.prog 8 #[.int .i64 most] w fun e w' => e = .returned (.tuple #[.pointer (some ⟨w.heap.size, 0, none⟩), .int .i64 0]) ∧ Pu w.heap.size w.heap.size (fun _ => .slice none 0 0) (empty most) w' ∧ Below w.heap.size w w' := by
  obtain ⟨h1, h2⟩ := h
  go_enter Try.func8, Try.ntmps8
  go_wp2_with fail
  refine done (.tuple #[.pointer (some ⟨w.heap.size, 0, none⟩), .int .i64 0]) rfl (by simp [results, Try.results8, go_sem]) ⟨rfl, ⟨Ob.new _ _ _, fun _ _ => World.ownsRow_nil _ _ _ _, fun _ _ _ _ _ h => (by cases h), fun _ _ h => (by cases h), Nat.le_refl _⟩, (Below.refl _ _).alloc (Nat.le_refl _) _⟩
theorem newno_pu (most : Int) (w : World) (h : ¬ (1 ≤ most ∧ most ≤ 10000)) : Calls Try.prog 8 #[.int .i64 most] w fun e w' => e = .returned (.tuple #[.pointer none, .int .i64 1]) ∧ w = w' := by
  rcases (by omega : most < 1 ∨ (1 ≤ most ∧ 10000 < most)) with h1 | ⟨h1, h2⟩
  all_goals
    clear h
    go_enter Try.func8, Try.ntmps8
    go_wp2_with fail
    go_ret2
    exact ⟨rfl, rfl⟩
def okWant (p id n : Int) : Prop := (0 ≤ p ∧ p < 8) ∧ (1 ≤ id ∧ id ≤ 1152921504606846976) ∧ (1 ≤ n ∧ n ≤ 1000000)
instance (p id n : Int) : Decidable (okWant p id n) := by unfold okWant; infer_instance
theorem wantno_pu (q : Option Addr) (p id n : Int) (w : World) (h : ¬ okWant p id n) : Calls Try.prog 9 #[.pointer q, .int .i64 p, .int .u64 id, .int .i64 n] w fun e w' => e = .returned (.int .i64 1) ∧ w = w' := by
  unfold okWant at h
  rcases (by omega : p < 0 ∨ (0 ≤ p ∧ 8 ≤ p) ∨ ((0 ≤ p ∧ p < 8) ∧ id < 1) ∨ ((0 ≤ p ∧ p < 8) ∧ 1 ≤ id ∧ 1152921504606846976 < id) ∨ ((0 ≤ p ∧ p < 8) ∧ (1 ≤ id ∧ id ≤ 1152921504606846976) ∧ n < 1) ∨ ((0 ≤ p ∧ p < 8) ∧ (1 ≤ id ∧ id ≤ 1152921504606846976) ∧ 1 ≤ n ∧ 1000000 < n)) with h1 | ⟨h1, h2⟩ | ⟨⟨h1, h2⟩, h3⟩ | ⟨⟨h1, h2⟩, h3, h4⟩ | ⟨⟨h1, h2⟩, ⟨h3, h4⟩, h5⟩ | ⟨⟨h1, h2⟩, ⟨h3, h4⟩, h5, h6⟩
  all_goals
    clear h
    go_enter Try.func9, Try.ntmps9
    go_wp2_with fail
    go_ret
    exact ⟨rfl, rfl⟩
theorem wantnil_pu (p id n : Int) (w : World) (h : okWant p id n) : Calls Try.prog 9 #[.pointer none, .int .i64 p, .int .u64 id, .int .i64 n] w fun e w' => e = .returned (.int .i64 4) ∧ w = w' := by
  obtain ⟨⟨h1, h2⟩, ⟨h3, h4⟩, h5, h6⟩ := h
  go_enter Try.func9, Try.ntmps9
  go_wp2_with fail
  go_ret
  exact ⟨rfl, rfl⟩
def Fl.more (n : Int) (x : Fl) : Fl := { x with wt := min (x.wt + n) 1073741824 }
def modi (l : List Fl) (i : Nat) (f : Fl → Fl) : List Fl := match l[i]? with | some x => l.set i (f x) | none => l
theorem modi_at {l : List Fl} {i : Nat} (h : i < l.length) (f : Fl → Fl) : modi l i f = l.set i (f l[i]) := by
  unfold modi; rw [List.getElem?_eq_getElem h]
def inst (l : List Fl) (i : Nat) (x : Fl) : List Fl := l.take i ++ [x] ++ l.drop i
def Ps.wantAt (s : Ps) (p : Nat) (id n : Int) (i : Nat) (f : Bool) : Int × Ps :=
  if f = true then (0, { s with L := upd s.L p (modi (s.L p) i (Fl.more n)) }) else if s.most ≤ s.known then (4, s) else (0, { s with known := s.known + 1, L := upd s.L p (inst (s.L p) i ⟨id, n, 0⟩) })
theorem inst_len {l : List Fl} {i : Nat} (h : i ≤ l.length) (x : Fl) : (inst l i x).length = l.length + 1 := by
  unfold inst
  rw [List.length_append, List.length_append, List.length_take, List.length_drop]; simp; omega
theorem inst_mod {l : List Fl} {i : Nat} (h : i ≤ l.length) (x : Fl) (f : Fl → Fl) : modi (inst l i x) i f = inst l i (f x) := by
  have hl : i < (inst l i x).length := by rw [inst_len h]; omega
  have ht : (l.take i).length = i := by rw [List.length_take]; omega
  have hg : (inst l i x)[i] = x := by
    unfold inst
    simp only [List.append_assoc]
    rw [List.getElem_append_right (by omega)]
    simp [ht]
  rw [modi_at hl, hg]
  unfold inst
  rw [List.append_assoc, List.set_append_right _ _ (by omega), ht, Nat.sub_self, List.append_assoc]
  rfl
theorem inst_flat (l : List Fl) (i : Nat) (x : Fl) : (l.flatMap Fl.row).take (i * 3) ++ x.row ++ (l.flatMap Fl.row).drop (i * 3) = (inst l i x).flatMap Fl.row := by
  unfold inst
  rw [flat_take rowFl, flat_drop rowFl, List.flatMap_append, List.flatMap_append]
  simp
set_option maxRecDepth 100000 in
set_option maxHeartbeats 4000000 in
theorem want_pu (b B0 : Nat) (V : Nat → Value) (s : Ps) (N : Int) (p : Nat) (id n : Int) (w : World) (h : Pu b B0 V s w) (ho : s.ok N) (hq : okWant p id n) :
    Calls Try.prog 9 #[.pointer (some ⟨b, 0, none⟩), .int .i64 p, .int .u64 id, .int .i64 n] w fun e w' => ∃ i f, Fnd (s.L p) id i f ∧ e = .returned (.int .i64 (s.wantAt p id n i f).1) ∧ PuPost b B0 V (s.wantAt p id n i f).2 w w' := by
  have HP := Lib.hid h
  have HO := Lib.hid ho
  obtain ⟨⟨h1, h2⟩, ⟨h3, h4⟩, h5, h6⟩ := hq
  have hp : p < 8 := by omega
  have hlen := ho.len hp
  clear h1 ho
  go_enter Try.func9, Try.ntmps9
  have lb := h.ob.lt
  clear h
  go_wp2_with fail
  refine (find_any b B0 V s p id _ HP.out hp (HO.out.up p hp) (by omega)).mono ?_
  rintro e w1 ⟨i, f, rfl, hf, hb1⟩
  have HP1 := Lib.hid (HP.out.below hb1)
  have HK1 := Lib.hid (Kept.of_below (M := PM b V) hb1)
  have HF := Lib.hid hf
  clear hf hb1
  go_upto_if 48 with fail
  go_cut [] from 47 to 76 (fun wx => ∃ V1 s1, Pu b B0 V1 s1 wx ∧ i < (s1.L p).length ∧ (s1.L p).length ≤ 10001 ∧ Kept (PM b V) w wx ∧ (∀ x, PM b V1 x → PM b V x ∨ w.heap.size ≤ x) ∧ Hid (s.wantAt p id n i f = (0, { s1 with L := upd s1.L p (modi (s1.L p) i (Fl.more n)) })) ∧ ∀ h : i < (s1.L p).length, 0 ≤ (s1.L p)[i].wt ∧ (s1.L p)[i].wt ≤ 1073741824)
  case first =>
    cases f
    · obtain ⟨lb, cb, fb⟩ := HP1.out.ob.blk
      have c0 : w1.cell? ⟨b, 0, none⟩ = some (.int .i64 s.most) := cb 0
      have c1 : w1.cell? ⟨b, 1, none⟩ = some (.int .i64 s.known) := cb 1
      clear cb
      have hk9 : 0 ≤ s.known ∧ s.known ≤ 10000 := by have := HO.out.kn; have := HO.out.km; have := HO.out.m1; omega
      by_cases hfull : s.most ≤ s.known
      · have hd : decide (s.most ≤ s.known) = true := decide_eq_true hfull
        go_wp2_with fail
        refine wp_region_quiet_lit (by kernel_rfl) (by kernel_rfl) ?_
        try simp only [List.append]
        repeat (first | go_big_quiet_step (fail) | quiet_step (fail))
        refine wpQuiet_nil ?_
        intro W hW
        have hkW := HK1.out.trans (kept_any (kept_ex hW))
        have hpW := HP1.out.keptF (kept_ex hW)
        have HX := Lib.hid (And.intro hkW hpW)
        clear hkW hpW hW
        go_wp2_with fail
        go_ret
        have hwa : s.wantAt p id n i false = (4, s) := by simp [Ps.wantAt, hfull]
        exact ⟨i, false, HF.out, by rw [hwa]; rfl, by rw [hwa]; exact ⟨V, HX.out.2, HX.out.1, fun _ h => .inl h⟩⟩
      · have hd : decide (s.most ≤ s.known) = false := decide_eq_false hfull
        go_wp2_with fail
        refine wp_region_quiet_lit (by kernel_rfl) (by kernel_rfl) ?_
        try simp only [List.append]
        repeat (first | go_big_quiet_step (fail) | quiet_step (fail))
        refine wpQuiet_nil ?_
        intro W hW
        have hpW := HP1.out.keptF (kept_ex hW)
        have HKW := Lib.hid (HK1.out.trans (kept_any (kept_ex hW)))
        have HPW := Lib.hid hpW
        clear hW c0 c1 lb fb
        obtain ⟨lb, cb, fb⟩ := hpW.ob.blk
        have c1 : W.cell? ⟨b, 1, none⟩ = some (.int .i64 s.known) := cb 1
        clear cb hpW
        go_upto_region 11 with fail
        have HP2 := Lib.hid (HPW.out.hd 1 (.int .i64 (s.known + 1)) (s' := { s with known := s.known + 1 }) rfl rfl)
        have HK2 := Lib.hid (HKW.out.set ⟨b, 1, none⟩ (.int .i64 (s.known + 1)) (fun _ => .inl rfl))
        generalize W.setCell ⟨b, 1, none⟩ (.int .i64 (s.known + 1)) = W2 at *
        clear c1 lb fb
        obtain ⟨lb, cb, fb⟩ := HP2.out.ob.blk
        have cv : W2.cell? ⟨b, 3 + p * 2, none⟩ = some (V p) := by rw [cb]; exact p_get _ _ hp
        obtain ⟨a, c, hv, _, _⟩ := (Rd.of_own (HP2.out.own p hp)).form
        have HV := Lib.hid hv
        rw [hv] at cv
        have hi := HF.out.1
        have hbn : b ≠ W2.heap.size := by omega
        have HA := Lib.hid (HP2.out.keptF ((Kept.refl (fun _ => False) W2).alloc (.cells #[.int .u64 id, .int .i64 0, .int .i64 0] TF)))
        have hV2 : ∀ x, (V p).ownBlock = some x → x < W2.heap.size := fun x hx => (own_lt (HP2.out.own p hp) x hx).2
        clear cb hv
        go_wp2_with fail
        have hown := HA.out.own p hp
        rw [HV.out] at hown
        refine (insert_fl B0 (.slice a (s.L p).length c) (s.L p).length i W2.heap.size 1 1 _ [.int .u64 id, .int .i64 0, .int .i64 0] _ hown hi (by decide) rfl (Rw.new W2 #[.int .u64 id, .int .i64 0, .int .i64 0] TF) (by decide) (by decide)
          (fun hh => by rw [← HV.out] at hh; have := hV2 _ hh; omega) (one_fl _) (fun u hu => by simp at hu; rcases hu with rfl | rfl | rfl <;> rfl) (by omega) (by have := HP2.out.base; simp; omega)).mono ?_
        rintro e w5 ⟨V5, rfl, ho5, hk5, hb5⟩
        obtain ⟨a5, c5, rfl, _, _⟩ := (Rd.of_own ho5).form
        have ob5 := HA.out.ob.kept hk5 (fun hh => HA.out.off p hp (by rw [HV.out]; exact hh))
        obtain ⟨lb5, cb5, fb5⟩ := ob5.blk
        have cv5 : w5.cell? ⟨b, 3 + p * 2, none⟩ = some (.slice a (s.L p).length c) := by rw [cb5, ← HV.out]; exact p_get _ _ hp
        have hfx := inst_flat (s.L p) i ⟨id, 0, 0⟩
        have hil := inst_len hi (⟨id, 0, 0⟩ : Fl)
        have ho5' : w5.ownsRow B0 TF 3 (.slice a5 ((s.L p).length + 1) c5) (inst (s.L p) i ⟨id, 0, 0⟩).length ((inst (s.L p) i ⟨id, 0, 0⟩).flatMap Fl.row) := by
          rw [hil, ← hfx]; exact ho5
        have hP5 := HA.out.line hp (v' := .slice a5 ((s.L p).length + 1) c5) (l' := inst (s.L p) i ⟨id, 0, 0⟩) (hk5.mono (fun x _ hx => by rw [HV.out]; exact hx)) ho5' (by
          rw [HV.out]
          exact hb5.imp (fun h => h) (fun h x hx => by rw [h] at hx; injection hx with hx; omega))
        have hsz : W2.heap.size ≤ (W2.alloc (.cells #[.int .u64 id, .int .i64 0, .int .i64 0] TF)).heap.size := by rw [World.size_alloc]; omega
        have hK5 := ((HK2.out.alloc (.cells #[.int .u64 id, .int .i64 0, .int .i64 0] TF)).trans (hk5.mono (N := PM b V) (fun x _ hx => .inr ⟨p, hp, by rw [HV.out]; exact hx⟩))).set ⟨b, 3 + p * 2, none⟩ (.slice a5 ((s.L p).length + 1) c5) (fun _ => .inl rfl)
        have hw2 := HK2.out.size
        have hF5 : ∀ x, PM b (upd V p (.slice a5 ((s.L p).length + 1) c5)) x → PM b V x ∨ w.heap.size ≤ x := by
          rintro x (rfl | ⟨q, hq, hx⟩)
          · exact .inl (.inl rfl)
          · by_cases hqp : q = p
            · rw [hqp, upd_same] at hx
              rcases hb5 with h | h
              · exact .inl (.inr ⟨p, hp, by rw [HV.out, ← h]; exact hx⟩)
              · rw [h, World.size_alloc] at hx; injection hx with hx; exact .inr (by omega)
            · rw [upd_other _ _ hqp] at hx
              exact .inl (.inr ⟨q, hq, hx⟩)
        have HX := Lib.hid (And.intro hP5 (And.intro hK5 hF5))
        clear hk5 hb5 ho5 ho5' hown hP5 hK5 hF5 hfx cb5
        go_wp2_with fail
        go_meet
        refine ⟨_, _, HX.out.1, ?_, ?_, HX.out.2.1, HX.out.2.2, Lib.hid ?_, ?_⟩
        · show i < (upd s.L p (inst (s.L p) i ⟨id, 0, 0⟩) p).length
          rw [upd_same, hil]; omega
        · show (upd s.L p (inst (s.L p) i ⟨id, 0, 0⟩) p).length ≤ 10001
          rw [upd_same, hil]; omega
        · have hm : min (0 + n) 1073741824 = n := by omega
          simp only [Ps.wantAt, upd_same, upd_upd, inst_mod hi, Fl.more, hm, if_neg (show ¬ s.most ≤ s.known by omega), Bool.false_eq_true, if_false]
        · show ∀ h : i < (upd s.L p (inst (s.L p) i ⟨id, 0, 0⟩) p).length, 0 ≤ ((upd s.L p (inst (s.L p) i ⟨id, 0, 0⟩) p)[i]'h).wt ∧ ((upd s.L p (inst (s.L p) i ⟨id, 0, 0⟩) p)[i]'h).wt ≤ 1073741824
          rw [upd_same]
          intro h
          have hg : (inst (s.L p) i ⟨id, 0, 0⟩)[i] = ⟨id, 0, 0⟩ := by
            have ht : ((s.L p).take i).length = i := by rw [List.length_take]; omega
            unfold inst
            simp only [List.append_assoc]
            rw [List.getElem_append_right (by omega)]
            simp [ht]
          rw [hg]
          show (0 : Int) ≤ 0 ∧ (0 : Int) ≤ 1073741824
          omega
    · go_wp2_with fail
      go_meet
      obtain ⟨h7, h8⟩ := HF.out.2.2.2.1 rfl
      refine ⟨V, s, HP1.out, h7, by omega, HK1.out, fun _ hx => .inl hx, Lib.hid (by simp [Ps.wantAt]), fun h => ?_⟩
      have := HO.out.fl p hp _ (List.getElem_mem h)
      exact ⟨this.2.2.1, this.2.2.2.1⟩
  case rest =>
    obtain ⟨V1, s1, hp1, hi1, hl1, hk1, hf1, HW1, hwt⟩ := hcut
    have HP3 := Lib.hid hp1
    have HK3 := Lib.hid hk1
    have HF3 := Lib.hid hf1
    obtain ⟨lb, cb, fb⟩ := hp1.ob.blk
    have cv : wc.cell? ⟨b, 3 + p * 2, none⟩ = some (V1 p) := by rw [cb, p_get _ _ hp]
    obtain ⟨g, c, hv, hle, hcm⟩ := own_some (hp1.own p hp) (by omega)
    have HV := Lib.hid hv
    rw [hv] at cv
    obtain ⟨w1', w2'⟩ := hwt hi1
    have hrd := Rd.of_own (hp1.own p hp)
    rw [hv] at hrd
    obtain ⟨gr, o, hgo, hgl, cw⟩ := Rd.row rowFl (by decide) hrd i hi1
    cases hgo
    have cf := cw 1 (.int .i64 (s1.L p)[i].wt) rfl
    rw [Nat.zero_add] at cf
    have hgf : wc.frozen? ⟨g, i * 3 + 1, none⟩ = false := by
      have h1 := hp1.own p hp
      rw [hv] at h1
      obtain ⟨_, _, _, _, cs, hr, _, _⟩ := own_row h1
      exact hr.free _
    have hbg : b ≠ g := fun e => hp1.off p hp (by rw [hv, e]; rfl)
    clear cb hp1 hk1 hf1 hwt hv hrd cw
    have hww : IntKind.i64.wrap ((s1.L p)[i].wt + n) = (s1.L p)[i].wt + n := by rw [IntKind.wrap_i64]; omega
    go_wp2_with fail
    refine region_tail 18 (by kernel_rfl) (by kernel_rfl) ?_
    simp only [List.take_succ_cons, List.take_zero, List.drop_succ_cons, List.drop_zero]
    repeat (first | still_step)
    refine wpStill_nil ?_
    have hfl := (HP3.out.keptF (Kept.drew (fun _ => False) wc)).fl (j := 1) (x := Fl.more n (s1.L p)[i]) (u := .int .i64 (min ((s1.L p)[i].wt + n) 1073741824)) hp HV.out hi1 (by decide) rfl
    rw [← modi_at hi1] at hfl
    have HX := Lib.hid (And.intro hfl ((HK3.out.drewR).set ⟨g, i * 3 + 1, none⟩ (.int .i64 (min ((s1.L p)[i].wt + n) 1073741824)) (fun hh => (HF3.out g (.inr ⟨p, hp, by rw [HV.out]; rfl⟩)).elim (fun h => h) (fun h => absurd hh (Nat.not_lt.2 h)))))
    clear hfl
    go_wp2_with fail
    go_ret
    exact ⟨i, f, HF.out, by rw [HW1.out]; rfl, by rw [HW1.out]; exact ⟨V1, HX.out.1, HX.out.2, HF3.out⟩⟩
end Go.Proofs.Ytohjnplhmbfjlaa
