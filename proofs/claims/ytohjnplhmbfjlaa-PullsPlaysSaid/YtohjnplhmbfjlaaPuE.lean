/- Who waits (chapter 18): look, Waits, Pulled, Drop, Len. -/
import Derived.Test.YtohjnplhmbfjlaaPuD
import Derived.Test.YtohjnplhmbfjlaaStruct
namespace Go.Proofs.Ytohjnplhmbfjlaa
open Go.RowKit

def Fl.none : Fl := ⟨0, 0, 0⟩
def lk (l : List Fl) (i : Nat) (f : Bool) : Fl := if f = true then l.getD i Fl.none else Fl.none
theorem lookno_pu (q : Option Addr) (p id : Int) (w : World) (h : q = none ∨ ¬ (0 ≤ p ∧ p < 8)) : Calls Try.prog 24 #[.pointer q, .int .i64 p, .int .u64 id] w fun e w' => e = .returned Fl.none.val ∧ Below w.heap.size w w' := by
  rcases q with _ | q
  · clear h
    go_enter Try.func24, Try.ntmps24
    go_wp2_with fail
    exact done Fl.none.val rfl (by simp [results, Try.results24, go_sem]; rfl) ⟨rfl, (Below.refl _ _).alloc (Nat.le_refl _) _⟩
  · have h : ¬ (0 ≤ p ∧ p < 8) := by rcases h with h | h; cases h; exact h
    rcases (by omega : p < 0 ∨ (0 ≤ p ∧ 8 ≤ p)) with h1 | ⟨h1, h2⟩
    all_goals
      clear h
      go_enter Try.func24, Try.ntmps24
      go_wp2_with fail
      exact done Fl.none.val rfl (by simp [results, Try.results24, go_sem]; rfl) ⟨rfl, (Below.refl _ _).alloc (Nat.le_refl _) _⟩
set_option maxRecDepth 100000 in
set_option maxHeartbeats 2000000 in
theorem look_pu (b B0 : Nat) (V : Nat → Value) (s : Ps) (N : Int) (p : Nat) (id : Int) (w : World) (h : Pu b B0 V s w) (ho : s.ok N) (hp : p < 8) :
    Calls Try.prog 24 #[.pointer (some ⟨b, 0, none⟩), .int .i64 p, .int .u64 id] w fun e w' => ∃ i f, Fnd (s.L p) id i f ∧ e = .returned (lk (s.L p) i f).val ∧ Below w.heap.size w w' := by
  have HP := Lib.hid h
  have HO := Lib.hid ho
  have hl := ho.len hp
  have hp2 : (p : Int) < 8 := by omega
  have lb := h.ob.lt
  clear h ho
  go_enter Try.func24, Try.ntmps24
  go_upto_region 3 with fail
  have HP1 := Lib.hid (HP.out.keptF ((Kept.refl (fun _ => False) w).alloc (.cells #[.int .u64 0, .int .i64 0, .int .i64 0] TF)))
  have OZ := Lib.hid (Ob.new w #[.int .u64 0, .int .i64 0, .int .i64 0] TF)
  have HB1 := Lib.hid ((Below.refl w.heap.size w).alloc (Nat.le_refl _) (.cells #[.int .u64 0, .int .i64 0, .int .i64 0] TF))
  generalize w.alloc (.cells #[.int .u64 0, .int .i64 0, .int .i64 0] TF) = w1 at *
  obtain ⟨X, HXX⟩ : ∃ X, Hid (w.heap.size = X) := ⟨_, Lib.hid rfl⟩
  rw [HXX.out] at OZ ⊢
  have lb := HP1.out.ob.lt
  go_wp2_with fail
  refine (find_any b B0 V s p id _ HP1.out hp (HO.out.up p hp) (by omega)).mono ?_
  rintro e w2 ⟨i, f, rfl, hf, hb2⟩
  have HF := Lib.hid hf
  have HP2 := Lib.hid (HP1.out.below hb2)
  have OZ2 := Lib.hid (OZ.out.below hb2)
  have HB2 := Lib.hid (HB1.out.trans (hb2.mono HB1.out.size))
  clear hf hb2
  obtain ⟨lz, cz, fz⟩ := OZ2.out.blk
  have cz0 : w2.cell? ⟨X, 0, none⟩ = some (.int .u64 0) := cz 0
  have cz1 : w2.cell? ⟨X, 1, none⟩ = some (.int .i64 0) := cz 1
  have cz2 : w2.cell? ⟨X, 2, none⟩ = some (.int .i64 0) := cz 2
  clear cz
  cases f
  · go_wp2_with fail
    have hXw : w.heap.size ≤ X := by rw [HXX.out]; exact Nat.le_refl _
    have OZ3 := Lib.hid (Ob.cast (((OZ2.out.set 0 (.int .u64 0)).set 1 (.int .i64 0)).set 2 (.int .i64 0)) (show _ = #[.int .u64 0, .int .i64 0, .int .i64 0] from rfl))
    have HB3 := Lib.hid (((HB2.out.setCell (p := ⟨X, 0, none⟩) hXw (.int .u64 0)).setCell (p := ⟨X, 1, none⟩) hXw (.int .i64 0)).setCell (p := ⟨X, 2, none⟩) hXw (.int .i64 0))
    generalize ((w2.setCell ⟨X, 0, none⟩ (.int .u64 0)).setCell ⟨X, 1, none⟩ (.int .i64 0)).setCell ⟨X, 2, none⟩ (.int .i64 0) = w3 at *
    obtain ⟨_, ce, _⟩ := OZ3.out.blk
    have ce0 : w3.cell? ⟨X, 0, none⟩ = some (.int .u64 0) := ce 0
    have ce1 : w3.cell? ⟨X, 1, none⟩ = some (.int .i64 0) := ce 1
    have ce2 : w3.cell? ⟨X, 2, none⟩ = some (.int .i64 0) := ce 2
    clear ce
    refine done Fl.none.val rfl (by simp [results, Try.results24, go_sem, ce0, ce1, ce2]; rfl) ⟨i, false, HF.out, rfl, HB3.out⟩
  · obtain ⟨hi, hid⟩ := HF.out.2.2.2.1 rfl
    obtain ⟨lb, cb, fb⟩ := HP2.out.ob.blk
    have cv : w2.cell? ⟨b, 3 + p * 2, none⟩ = some (V p) := by rw [cb, p_get _ _ hp]
    obtain ⟨g, c, hv, hle, hcm⟩ := own_some (HP2.out.own p hp) (by omega)
    rw [hv] at cv
    have hrd := Rd.of_own (HP2.out.own p hp)
    rw [hv] at hrd
    obtain ⟨gr, o, hgo, hgl, cw⟩ := Rd.row rowFl (by decide) hrd i hi
    cases hgo
    obtain ⟨x, HX⟩ : ∃ x, Hid ((s.L p)[i] = x) := ⟨_, Lib.hid rfl⟩
    rw [HX.out] at cw
    have cf0 := cw 0 (.int .u64 x.id) rfl
    have cf1 := cw 1 (.int .i64 x.wt) rfl
    have cf2 := cw 2 (.int .i64 x.pl) rfl
    rw [Nat.zero_add] at cf0 cf1 cf2
    rw [Nat.add_zero] at cf0
    have hlk : lk (s.L p) i true = x := by unfold lk; rw [if_pos rfl, List.getD_eq_getElem?_getD, List.getElem?_eq_getElem hi, HX.out]; rfl
    have HLK := Lib.hid hlk
    clear cb cw hrd hv hlk hid
    go_wp2_with fail
    have hXw : w.heap.size ≤ X := by rw [HXX.out]; exact Nat.le_refl _
    have OZ3 := Lib.hid (Ob.cast (((OZ2.out.set 0 (.int .u64 x.id)).set 1 (.int .i64 x.wt)).set 2 (.int .i64 x.pl)) (show _ = #[.int .u64 x.id, .int .i64 x.wt, .int .i64 x.pl] from rfl))
    have HB3 := Lib.hid (((HB2.out.setCell (p := ⟨X, 0, none⟩) hXw (.int .u64 x.id)).setCell (p := ⟨X, 1, none⟩) hXw (.int .i64 x.wt)).setCell (p := ⟨X, 2, none⟩) hXw (.int .i64 x.pl))
    generalize ((w2.setCell ⟨X, 0, none⟩ (.int .u64 x.id)).setCell ⟨X, 1, none⟩ (.int .i64 x.wt)).setCell ⟨X, 2, none⟩ (.int .i64 x.pl) = w3 at *
    obtain ⟨_, ce, _⟩ := OZ3.out.blk
    have ce0 : w3.cell? ⟨X, 0, none⟩ = some (.int .u64 x.id) := ce 0
    have ce1 : w3.cell? ⟨X, 1, none⟩ = some (.int .i64 x.wt) := ce 1
    have ce2 : w3.cell? ⟨X, 2, none⟩ = some (.int .i64 x.pl) := ce 2
    clear ce
    refine done x.val rfl (by simp [results, Try.results24, go_sem, ce0, ce1, ce2]; rfl) ⟨i, true, HF.out, by rw [HLK.out], HB3.out⟩
theorem fld1 (a : Int) (b c : Int) (w : World) : (Instr.field TF (.agg #[.int .u64 a, .int .i64 b, .int .i64 c]) 1).run Try.prog w = .ok (.int .i64 b) w := by kernel_rfl
theorem fld2 (a : Int) (b c : Int) (w : World) : (Instr.field TF (.agg #[.int .u64 a, .int .i64 b, .int .i64 c]) 2).run Try.prog w = .ok (.int .i64 c) w := by kernel_rfl
theorem fnd_one {l : List Fl} {id : Int} {i j : Nat} {f g : Bool} (h : Fnd l id i f) (h' : Fnd l id j g) : i = j ∧ f = g := by
  obtain ⟨a1, a2, a3, a4⟩ := h
  obtain ⟨b1, b2, b3, b4⟩ := h'
  have e : i = j := by
    rcases Nat.lt_trichotomy i j with h | h | h
    · have h1 := b2 l[i] (by rw [List.mem_take_iff_getElem]; exact ⟨i, by omega, rfl⟩)
      have h2 := a3 l[i] (by rw [List.mem_drop_iff_getElem]; exact ⟨0, by omega, rfl⟩)
      omega
    · exact h
    · have h1 := a2 l[j] (by rw [List.mem_take_iff_getElem]; exact ⟨j, by omega, rfl⟩)
      have h2 := b3 l[j] (by rw [List.mem_drop_iff_getElem]; exact ⟨0, by omega, rfl⟩)
      omega
  subst e
  exact ⟨rfl, by rw [Bool.eq_iff_iff, a4, b4]⟩
theorem waitsno_pu (q : Option Addr) (p id : Int) (w : World) (h : q = none ∨ ¬ (0 ≤ p ∧ p < 8)) : Calls Try.prog 17 #[.pointer q, .int .i64 p, .int .u64 id] w fun e w' => e = .returned (.int .i64 0) ∧ Below w.heap.size w w' := by
  have hfd := fld1 0 0 0
  go_enter Try.func17, Try.ntmps17
  go_wp2_with fail
  refine (lookno_pu q p id _ h).mono ?_
  rintro e w1 ⟨rfl, hb⟩
  unfold Fl.none Fl.val
  go_wp2_with fail
  go_ret
  exact ⟨rfl, hb⟩
theorem pulledno_pu (q : Option Addr) (p id : Int) (w : World) (h : q = none ∨ ¬ (0 ≤ p ∧ p < 8)) : Calls Try.prog 18 #[.pointer q, .int .i64 p, .int .u64 id] w fun e w' => e = .returned (.int .i64 0) ∧ Below w.heap.size w w' := by
  have hfd := fld2 0 0 0
  go_enter Try.func18, Try.ntmps18
  go_wp2_with fail
  refine (lookno_pu q p id _ h).mono ?_
  rintro e w1 ⟨rfl, hb⟩
  unfold Fl.none Fl.val
  go_wp2_with fail
  go_ret
  exact ⟨rfl, hb⟩
theorem waits_pu (b B0 : Nat) (V : Nat → Value) (s : Ps) (N : Int) (p : Nat) (id : Int) (w : World) (h : Pu b B0 V s w) (ho : s.ok N) (hp : p < 8) :
    Calls Try.prog 17 #[.pointer (some ⟨b, 0, none⟩), .int .i64 p, .int .u64 id] w fun e w' => ∃ i f, Fnd (s.L p) id i f ∧ e = .returned (.int .i64 (lk (s.L p) i f).wt) ∧ Below w.heap.size w w' := by
  go_enter Try.func17, Try.ntmps17
  go_wp2_with fail
  refine (look_pu b B0 V s N p id _ h ho hp).mono ?_
  rintro e w1 ⟨i, f, hf, rfl, hb⟩
  have HF := Lib.hid hf
  clear hf h ho
  generalize hx : lk (s.L p) i f = x
  have HX := Lib.hid hx
  clear hx
  have hfd := fld1 x.id x.wt x.pl
  unfold Fl.val
  go_wp2_with fail
  go_ret
  exact ⟨i, f, HF.out, by rw [HX.out]; rfl, hb⟩
theorem pulled_pu (b B0 : Nat) (V : Nat → Value) (s : Ps) (N : Int) (p : Nat) (id : Int) (w : World) (h : Pu b B0 V s w) (ho : s.ok N) (hp : p < 8) :
    Calls Try.prog 18 #[.pointer (some ⟨b, 0, none⟩), .int .i64 p, .int .u64 id] w fun e w' => ∃ i f, Fnd (s.L p) id i f ∧ e = .returned (.int .i64 (lk (s.L p) i f).pl) ∧ Below w.heap.size w w' := by
  go_enter Try.func18, Try.ntmps18
  go_wp2_with fail
  refine (look_pu b B0 V s N p id _ h ho hp).mono ?_
  rintro e w1 ⟨i, f, hf, rfl, hb⟩
  have HF := Lib.hid hf
  clear hf h ho
  generalize hx : lk (s.L p) i f = x
  have HX := Lib.hid hx
  clear hx
  have hfd := fld2 x.id x.wt x.pl
  unfold Fl.val
  go_wp2_with fail
  go_ret
  exact ⟨i, f, HF.out, by rw [HX.out]; rfl, hb⟩
theorem dropno_pu (q : Option Addr) (p id : Int) (w : World) (h : q = none ∨ ¬ (0 ≤ p ∧ p < 8)) : Calls Try.prog 14 #[.pointer q, .int .i64 p, .int .u64 id] w fun e w' => e = .returned (.int .i64 0) ∧ Below w.heap.size w w' := by
  go_enter Try.func14, Try.ntmps14
  go_wp2_with fail
  refine (lookno_pu q p id _ h).mono ?_
  rintro e w1 ⟨rfl, hb⟩
  have HB := Lib.hid hb
  have s1 := hb.size
  clear hb h
  unfold Fl.none Fl.val
  go_wp2_with fail
  go_ret
  exact ⟨rfl, HB.out.alloc s1 _⟩
theorem delete_own (B : Nat) (V : Value) (n j : Nat) (xs : List Value) (w : World) (h : w.ownsRow B TF 3 V n xs) (hj : j < n) (h1c : ∀ u ∈ xs, u.oneCell' = true) :
    Calls Try.prog 25 #[V, .int .i64 j, .int .i64 (j + 1 : Nat)] w fun e w' => ∃ V', e = .returned V' ∧ w'.ownsRow B TF 3 V' (n - 1) (xs.take (j * 3) ++ xs.drop ((j + 1) * 3)) ∧ Kept (Lk V) w w' ∧ V'.ownBlock = V.ownBlock := by
  have hx := h.1
  rcases h.2 with ⟨rfl, hn⟩ | ⟨g, cap, cur, rfl, hg, hh, hnc, hcm, hcs, hcx⟩
  · omega
  · obtain ⟨_, _, hcm, _, cs, hr, hcl, hct⟩ := own_row h
    refine (delete_fl g n cap j (j + 1) cs w hr hcl hnc hcm (by omega) hj (fun u hu => h1c u (by rw [← hct]; exact hu))).mono ?_
    rintro e w' ⟨rfl, hk, cs', hr', hl', ht'⟩
    rw [show n - (j + 1 - j) = n - 1 by omega] at ht'
    refine ⟨_, rfl, ?_, hk.mono (fun x _ hx => by rw [show x = g from hx]; rfl), rfl⟩
    rw [show n - (j + 1 - j) = n - 1 by omega]
    refine row_own hg (by omega) hcm hr' (by rw [hl', hcl]) ?_
    rw [ht', hct, ← hct, List.take_take, Nat.min_eq_left (by omega)]
def Ps.dropAt (s : Ps) (p i : Nat) (f : Bool) : Ps := if f = true then { s with known := s.known - 1, L := upd s.L p ((s.L p).take i ++ (s.L p).drop (i + 1)) } else s
theorem drop_flat (l : List Fl) (i : Nat) : (l.flatMap Fl.row).take (i * 3) ++ (l.flatMap Fl.row).drop ((i + 1) * 3) = (l.take i ++ l.drop (i + 1)).flatMap Fl.row := by
  rw [flat_take rowFl, flat_drop rowFl, List.flatMap_append]
set_option maxRecDepth 100000 in
set_option maxHeartbeats 4000000 in
theorem drop_pu (b B0 : Nat) (V : Nat → Value) (s : Ps) (N : Int) (p : Nat) (id : Int) (w : World) (h : Pu b B0 V s w) (ho : s.ok N) (hp : p < 8) :
    Calls Try.prog 14 #[.pointer (some ⟨b, 0, none⟩), .int .i64 p, .int .u64 id] w fun e w' => ∃ i f, Fnd (s.L p) id i f ∧ e = .returned (.int .i64 (lk (s.L p) i f).wt) ∧ PuPost b B0 V (s.dropAt p i f) w w' := by
  have HP := Lib.hid h
  have HO := Lib.hid ho
  have hl := ho.len hp
  have hp2 : (p : Int) < 8 := by omega
  clear h ho
  go_enter Try.func14, Try.ntmps14
  go_wp2_with fail
  refine (look_pu b B0 V s N p id _ HP.out HO.out hp).mono ?_
  rintro e w1 ⟨i, f, hf, rfl, hb1⟩
  have HF := Lib.hid hf
  have HP1 := Lib.hid (HP.out.below hb1)
  have HB1 := Lib.hid hb1
  have s1 := hb1.size
  clear hf hb1
  cases f
  · have hx : lk (s.L p) i false = Fl.none := rfl
    rw [hx]
    unfold Fl.none Fl.val
    go_wp2_with fail
    go_ret
    have hd : s.dropAt p i false = s := rfl
    have hb := HB1.out.alloc s1 (.cells #[.int .u64 0, .int .i64 0, .int .i64 0] TF)
    exact ⟨i, false, HF.out, rfl, by rw [hd]; exact ⟨V, HP.out.below hb, Kept.of_below hb, fun _ hh => .inl hh⟩⟩
  · obtain ⟨hi, hid⟩ := HF.out.2.2.2.1 rfl
    have hlk : lk (s.L p) i true = (s.L p)[i] := by unfold lk; rw [if_pos rfl, List.getD_eq_getElem?_getD, List.getElem?_eq_getElem hi]; rfl
    have hfl := HO.out.fl p hp _ (List.getElem_mem hi)
    obtain ⟨x, HX⟩ : ∃ x, Hid ((s.L p)[i] = x) := ⟨_, Lib.hid rfl⟩
    rw [HX.out] at hlk hfl
    have HLK := Lib.hid hlk
    rw [hlk]
    have hx0 : (x.id == 0) = false := beq_eq_false_iff_ne.2 (by have := hfl.1; omega)
    clear hlk hfl hid
    unfold Fl.val
    go_upto_region 4 with fail
    have HP2 := Lib.hid (HP1.out.keptF ((Kept.refl (fun _ => False) w1).alloc (.cells #[.int .u64 x.id, .int .i64 x.wt, .int .i64 x.pl] TF)))
    have OX := Lib.hid (Ob.new w1 #[.int .u64 x.id, .int .i64 x.wt, .int .i64 x.pl] TF)
    have HB2 := Lib.hid (HB1.out.alloc s1 (.cells #[.int .u64 x.id, .int .i64 x.wt, .int .i64 x.pl] TF))
    have hXnew : ∀ y, PM b V y → y < w1.heap.size := fun y hy => (HP1.out.lt y hy).2
    generalize w1.alloc (.cells #[.int .u64 x.id, .int .i64 x.wt, .int .i64 x.pl] TF) = w2 at *
    generalize w1.heap.size = X at *
    have lb := HP2.out.ob.lt
    go_wp2_with fail
    refine (find_any b B0 V s p id _ HP2.out hp (HO.out.up p hp) (by omega)).mono ?_
    rintro e w3 ⟨i', f', rfl, hf, hb3⟩
    obtain ⟨rfl, rfl⟩ := fnd_one HF.out hf
    have HP3 := Lib.hid (HP2.out.below hb3)
    have OX3 := Lib.hid (OX.out.below hb3)
    have HB3 := Lib.hid (HB2.out.trans (hb3.mono HB2.out.size))
    clear hb3 hf
    obtain ⟨lb, cb, fb⟩ := HP3.out.ob.blk
    have cv : w3.cell? ⟨b, 3 + p * 2, none⟩ = some (V p) := by rw [cb, p_get _ _ hp]
    obtain ⟨a, c, hv, _, _⟩ := (Rd.of_own (HP3.out.own p hp)).form
    have HV := Lib.hid hv
    rw [hv] at cv
    clear cb hv
    go_wp2_with fail
    have hown := HP3.out.own p hp
    rw [HV.out] at hown
    rw [show ((i : Int) + 1) = ((i + 1 : Nat) : Int) by omega]
    refine (delete_own B0 (.slice a (s.L p).length c) (s.L p).length i _ _ hown hi (one_fl _)).mono ?_
    rintro e w5 ⟨V5, rfl, ho5, hk5, hb5⟩
    obtain ⟨a5, c5, rfl, _, _⟩ := (Rd.of_own ho5).form
    have hVb : ∀ y, Lk (.slice a (s.L p).length c) y → (V p).ownBlock = some y := fun y hy => by rw [HV.out]; exact hy
    have ob5 := HP3.out.ob.kept hk5 (fun hh => HP3.out.off p hp (hVb b hh))
    obtain ⟨lb5, cb5, fb5⟩ := ob5.blk
    have cv5 : w5.cell? ⟨b, 3 + p * 2, none⟩ = some (.slice a (s.L p).length c) := by rw [cb5, ← HV.out]; exact p_get _ _ hp
    have hfx := drop_flat (s.L p) i
    have hil : ((s.L p).take i ++ (s.L p).drop (i + 1)).length = (s.L p).length - 1 := by
      rw [List.length_append, List.length_take, List.length_drop]; omega
    have ho5' : w5.ownsRow B0 TF 3 (.slice a5 ((s.L p).length - 1) c5) ((s.L p).take i ++ (s.L p).drop (i + 1)).length (((s.L p).take i ++ (s.L p).drop (i + 1)).flatMap Fl.row) := by
      rw [hil, ← hfx]; exact ho5
    have hP5 := HP3.out.line hp (v' := .slice a5 ((s.L p).length - 1) c5) (l' := (s.L p).take i ++ (s.L p).drop (i + 1)) (hk5.mono (fun x _ hx => hVb x hx)) ho5' (.inl (by rw [HV.out]; exact hb5))
    have hXV : ¬ Lk (.slice a (s.L p).length c) X := fun hh => by have := hXnew X (.inr ⟨p, hp, hVb X hh⟩); omega
    have hXb : X ≠ b := by have := hXnew b (.inl rfl); omega
    have OX5 := OX3.out.kept hk5 hXV
    have HP6 := Lib.hid hP5
    have OX6 := Lib.hid (OX5.other ⟨b, 3 + p * 2, none⟩ (.slice a5 ((s.L p).length - 1) c5) hXb)
    have HK6 := Lib.hid (((Kept.of_below (M := PM b V) HB3.out).trans (hk5.mono (N := PM b V) (fun x _ hx => .inr ⟨p, hp, hVb x hx⟩))).set ⟨b, 3 + p * 2, none⟩ (.slice a5 ((s.L p).length - 1) c5) (fun _ => .inl rfl))
    have hF6 : ∀ x, PM b (upd V p (.slice a5 ((s.L p).length - 1) c5)) x → PM b V x := by
      rintro x (rfl | ⟨q, hq, hx⟩)
      · exact .inl rfl
      · by_cases hqp : q = p
        · rw [hqp, upd_same] at hx
          exact .inr ⟨p, hp, by rw [HV.out, ← hb5]; exact hx⟩
        · rw [upd_other _ _ hqp] at hx
          exact .inr ⟨q, hq, hx⟩
    have HF6 := Lib.hid hF6
    clear cb5 OX5 hP5 ho5 ho5' hk5 hb5 hfx hF6 lb fb cv hVb hown
    go_upto_region 7 with fail
    generalize w5.setCell ⟨b, 3 + p * 2, none⟩ (.slice a5 ((s.L p).length - 1) c5) = w6 at *
    clear lb5 fb5 cv5
    obtain ⟨lb, cb, fb⟩ := HP6.out.ob.blk
    have c1 : w6.cell? ⟨b, 1, none⟩ = some (.int .i64 s.known) := cb 1
    clear cb
    obtain ⟨lX, cX, _⟩ := OX6.out.blk
    have cx1 : w6.cell? ⟨X, 1, none⟩ = some (.int .i64 x.wt) := cX 1
    clear cX
    have hkn : 1 ≤ s.known ∧ s.known ≤ 10000 := by have := HO.out.kn; have := HO.out.km; have := HO.out.m1; have := cnt_ge s.L hp; omega
    have hbX : b ≠ X := fun e => hXb e.symm
    have hP7 := HP6.out.hd 1 (.int .i64 (s.known - 1)) (s' := { s with known := s.known - 1, L := upd s.L p ((s.L p).take i ++ (s.L p).drop (i + 1)) }) rfl rfl
    have HX7 := Lib.hid (And.intro hP7 (HK6.out.set ⟨b, 1, none⟩ (.int .i64 (s.known - 1)) (fun _ => .inl rfl)))
    clear hP7
    go_wp2_with fail
    go_ret
    have hd : s.dropAt p i true = { s with known := s.known - 1, L := upd s.L p ((s.L p).take i ++ (s.L p).drop (i + 1)) } := rfl
    exact ⟨i, true, HF.out, by rw [HLK.out]; rfl, by rw [hd]; exact ⟨_, HX7.out.1, HX7.out.2, fun y hy => .inl (HF6.out y hy)⟩⟩
end Go.Proofs.Ytohjnplhmbfjlaa
