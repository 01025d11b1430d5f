/- The law ReasmAny (chapter 7), walked. -/
import Derived.Test.YtkogodoaejoooaaReY
import Derived.Deep.CutBlock
namespace Go.Proofs.Ytkogodoaejoooaa
open Go.RowKit

abbrev TB : TypeId := 4
theorem info_bool : (Try.prog.info? TB).map (fun i => (i.zero, i.size, i.bytes)) = some (some (.bool false), 1, 1) := by kernel_rfl
theorem made_bools (n : Nat) : madeCells #[Value.bool false] n = ((List.replicate n false).map Value.bool).toArray := by
  rw [List.map_replicate]
  apply Array.ext'
  simp [madeCells, Nat.mod_one, List.map_const']
/-- the message, and which pieces came -/
structure An (b B g S Z : Nat) (V : Value) (l1 : List UInt8) (st : Is) (G : List Bool) (w : World) : Prop where
  a : Bf b B g S V l1 st w
  gc : Ob w Z (G.map Value.bool).toArray TB
  ne : ¬ BM g S V Z
  nb : b ≠ Z
  lo : B ≤ Z
theorem An.keptF {b B g S Z : Nat} {V : Value} {l1 : List UInt8} {st : Is} {G : List Bool} {w w' : World} (h : An b B g S Z V l1 st G w) (hk : Kept (fun _ => False) w w') : An b B g S Z V l1 st G w' := ⟨h.a.keptF hk, h.gc.kept hk id, h.ne, h.nb, h.lo⟩
theorem An.post {b B g S Z : Nat} {V : Value} {l1 l2 : List UInt8} {st st' : Is} {G : List Bool} {w w' : World} (h : An b B g S Z V l1 st G w) (hp : BfPost b B g S V l2 st' w w') : ∃ V', An b B g S Z V' l2 st' G w' ∧ Below B w w' := by
  have hb := hp.below h.a
  obtain ⟨V', h1, h2, h3⟩ := hp
  refine ⟨V', ⟨h1, h.gc.kept h2 h.ne, fun hh => ?_, h.nb, h.lo⟩, hb⟩
  rcases h3 Z hh with h4 | h4
  · exact h.ne h4
  · have := h.gc.lt; omega
theorem An.set {b B g S Z : Nat} {V : Value} {l1 : List UInt8} {st : Is} {G : List Bool} {w : World} (h : An b B g S Z V l1 st G w) (i : Nat) (x : Bool) : An b B g S Z V l1 st (G.set i x) (w.setCell ⟨Z, i, none⟩ (.bool x)) := by
  have hk : Kept (Only Z) w (w.setCell ⟨Z, i, none⟩ (.bool x)) := (Kept.refl (Only Z) w).setO
  refine ⟨h.a.kept hk h.nb (fun y hy hh => h.ne (by rw [← show y = Z from hh]; exact hy)), Ob.cast (h.gc.set i (.bool x)) ?_, h.ne, h.nb, h.lo⟩
  rw [List.map_set]
  simp
theorem An.cell {b B g S Z : Nat} {V : Value} {l1 : List UInt8} {st : Is} {G : List Bool} {w : World} (h : An b B g S Z V l1 st G w) {i : Nat} (hi : i < G.length) : w.cell? ⟨Z, i, none⟩ = some (.bool G[i]) := by
  rw [h.gc.blk.2.1 i]
  simp [List.getElem?_eq_getElem hi]
set_option maxRecDepth 100000 in
set_option maxHeartbeats 8000000 in
theorem any_in (l : List UInt8) (s : Nat) (ord : List Int) (v u : Value) (w : World) (h : Rd w 1 v l.length (bcells l)) (h' : Rd w 1 u ord.length (ord.map (Value.int .i64))) (l0 : 0 < l.length) (l1 : l.length ≤ 500) (s0 : 1 ≤ s) (s1 : s ≤ 500) (ho : ord.length ≤ 60) : Calls Try.prog 3 #[v, .int .i64 s, u] w (TrueBelow w) := by
  obtain ⟨bd, od, c, rfl, hlc, hcm, hbd, _⟩ := h.some (by omega) (by decide)
  obtain ⟨u, cq, rfl, h3, h4⟩ := h'.form
  have HR := Lib.hid h
  have HR' := Lib.hid h'
  clear h h'
  have hne : ((l.length : Int) == 0) = false := beq_eq_false_iff_ne.2 (by omega)
  have hsne : ((s : Int) == 0) = false := beq_eq_false_iff_ne.2 (by omega)
  obtain ⟨n, HN⟩ : ∃ n, Hid (pcs l.length s = n) := ⟨_, Lib.hid rfl⟩
  have hn1 : n ≤ 500 := by
    rw [← HN.out]; unfold pcs
    have : (l.length + s - 1) / s ≤ l.length + s - 1 - (s - 1) := by
      rw [Nat.div_le_iff_le_mul_add_pred (by omega)]
      have := Nat.mul_le_mul_right (l.length + s - 1 - (s - 1)) s0
      omega
    omega
  go_enter Try.func3, Try.ntmps3
  go_wp2_with fail
  refine (new_bf l.length l.length _ (Int.le_refl _) (by omega)).mono ?_
  rintro e w2 ⟨b, g, S, rfl, hw2, hb2⟩
  have HW2 := Lib.hid hw2
  have B2 := Lib.hid hb2
  have s2 := hb2.size
  clear hw2 hb2
  go_upto_region 7 with fail
  rw [show ((l.length : Int) + (s : Int) - 1) / (s : Int) = (n : Int) by
    rw [← HN.out]; unfold pcs; rw [Int.natCast_ediv]; congr 1; omega]
  obtain ⟨i0, hi0, hz0, hs0, hb0⟩ := info_parts info_bool
  have lbw := HW2.out.ob.lt
  have HA3 := Lib.hid (show An b w.heap.size g S w2.heap.size (.slice none 0 0) (List.replicate l.length 0) ⟨l.length, []⟩ (List.replicate n false) (w2.alloc (.cells (madeCells #[Value.bool false] n) TB)) from
    ⟨HW2.out.keptF ((Kept.refl (fun _ => False) w2).alloc _), Ob.cast (Ob.new _ _ _) (made_bools n), fun hh => by have := (HW2.out.lt _ hh).2; omega, by omega, s2⟩)
  have B3 := Lib.hid (B2.out.alloc s2 (.cells (madeCells #[Value.bool false] n) TB))
  go_wp2_with (refine wpList_make_row _ rfl (.tmp 62) (.tmp 62) _ rfl TB i0 (.bool false) (by rfl) hi0 hz0 hs0 rfl .i64 .i64 n rfl rfl (by rw [hb0]; omega) (by omega) ?_)
  generalize w2.alloc (.cells (madeCells #[Value.bool false] n) TB) = w3 at *
  generalize w2.heap.size = Z at *
  clear HW2 B2 hi0 hz0 hs0 hb0 lbw
  have hon : (ord.length : Int) + (n : Int) ≤ 1000 := by omega
  have HC0 : Hid (Came l s (List.replicate n false) (List.replicate l.length 0) ⟨l.length, []⟩) := Lib.hid (by rw [← HN.out]; exact came_start (by omega))
  go_loopw [11, 12] (fun s11 s12 wr => ∃ (i : Nat) (V : Value) (m : List UInt8) (st : Is) (G : List Bool), s11 = .int .i64 (G.count false : Nat) ∧ s12 = .int .i64 i ∧ i ≤ ord.length + n ∧ An b w.heap.size g S Z V m st G wr ∧ Hid (Came l s G m st) ∧ Hid (st.l.length ≤ i) ∧ Hid (∀ k, k + ord.length < i → G[k]? = some true) ∧ Below w.heap.size w wr) (fun _ a _ => ord.length + n - (intOf a).toNat)
  case atStart => exact ⟨0, _, _, _, _, by simp, rfl, Nat.zero_le _, HA3.out, HC0, Lib.hid (Nat.le_refl _), Lib.hid (fun k hk => by omega), B3.out⟩
  case round =>
    obtain ⟨i, V, m, st, G, rfl, rfl, hi, ha, HC, HSL, HGT, hb⟩ := hrel
    have HA := Lib.hid ha
    have HB := Lib.hid hb
    have sk := hb.size
    clear ha hb HA3 B3 HC0
    by_cases hlt : i < ord.length + n
    · have hin : (i : Int) < (ord.length : Int) + (n : Int) := by omega
      obtain ⟨C, HCC⟩ : ∃ C, Hid (G.count false = C) := ⟨_, Lib.hid rfl⟩
      rw [HCC.out]
      go_upto_if 80 with fail
      go_cut [13] from 65 to 161 (fun s13 wx => ∃ k : Nat, s13 = .int .i64 k ∧ k < n ∧ Hid (ord.length ≤ i → k = i - ord.length) ∧ wx = wr)
      case first =>
        rcases Nat.lt_or_ge i ord.length with hio | hio
        · obtain ⟨bo, oo, rfl, c0⟩ := (HR'.out.below HB.out).at i hio
          generalize ord[i] = x at *
          have hdi : decide (i < ord.length) = true := decide_eq_true hio
          have hn0 : 0 < n := by rw [← HN.out]; exact (pcs_lt (by omega) l0).2 (by omega)
          obtain ⟨k, hk⟩ : ∃ k : Nat, x % (n : Int) = (k : Int) := ⟨(x % (n : Int)).toNat, by have := Int.emod_nonneg x (show (n : Int) ≠ 0 by omega); omega⟩
          have hk1 : k < n := by have := Int.emod_lt_of_pos x (show (0 : Int) < n by omega); omega
          have HK := Lib.hid hk
          clear hk
          go_wp2_with fail
          refine (round_any x n _ (by omega) (by omega)).mono ?_
          rw [HK.out]
          rintro e w4 ⟨rfl, rfl⟩
          go_wp2_with fail
          go_meet
          exact ⟨k, rfl, hk1, Lib.hid (fun h => by omega), rfl⟩
        · have hdi : decide (i < ord.length) = false := decide_eq_false (by omega)
          go_wp2_with fail
          go_meet
          exact ⟨i - ord.length, by congr 1; omega, by omega, Lib.hid (fun _ => rfl), rfl⟩
      case rest =>
      obtain ⟨k, rfl, hk, HKI, rfl⟩ := hcut
      have hgl : G.length = n := by rw [HC.out.gl, HN.out]
      have hkG : k < G.length := by omega
      obtain ⟨p1, p2, p3⟩ := came_piece HC.out (by omega) l0 hkG
      have hagr := came_agr HC.out (by omega) l0 hkG
      have hstep := came_step HC.out (by omega) l0 hkG
      have hfr := came_fresh HC.out (by omega) l0 hkG
      have hpl := piece_len (l := l) (s := s) (k := k) (by omega) p3
      have hcount := count_set hkG
      rw [HCC.out] at hcount
      have hT1 : (k + 1) * s ≤ 1000 := by rw [Nat.add_mul]; omega
      have hEmin : ends l.length s k = min ((k + 1) * s) l.length := rfl
      have hrp : Rd wc 1 (.slice (some ⟨bd, od + k * s, none⟩) (ends l.length s k - k * s) (c - k * s)) (piece l s k).length (bcells (piece l s k)) := by
        have h := (HR.out.below HB.out).part (k * s) (ends l.length s k) (by omega) p3
        rw [slAddr_some _ (by omega), addr_add] at h
        exact h
      rw [hpl] at hrp
      have e1 : k * s + (ends l.length s k - k * s) = ends l.length s k := by omega
      obtain ⟨P, HP⟩ : ∃ P, Hid (piece l s k = P) := ⟨_, Lib.hid rfl⟩
      rw [HP.out] at hagr hstep hpl hrp
      obtain ⟨O, HO⟩ : ∃ O, Hid (k * s = O) := ⟨_, Lib.hid rfl⟩
      obtain ⟨T, HT⟩ : ∃ T, Hid ((k + 1) * s = T) := ⟨_, Lib.hid rfl⟩
      obtain ⟨E, HE⟩ : ∃ E, Hid (ends l.length s k = E) := ⟨_, Lib.hid rfl⟩
      rw [HO.out] at p1 p2 hagr hstep hfr hpl hrp e1
      rw [HE.out] at p2 p3 hstep hfr hpl hrp e1 hEmin
      rw [HT.out] at hT1 hEmin
      have HAGR := Lib.hid hagr
      have HST := Lib.hid hstep
      have HFR := Lib.hid hfr
      have HPL := Lib.hid hpl
      have HRP := Lib.hid hrp
      have HCN := Lib.hid hcount
      have i1 : (k : Int) * (s : Int) = (O : Int) := by rw [← HO.out]; simp
      have i2 : ((k : Int) + 1) * (s : Int) = (T : Int) := by rw [← HT.out]; simp
      have i3 : min (T : Int) (l.length : Int) = (E : Int) := by omega
      have w1 : IntKind.i64.wrap ((k : Int) * (s : Int)) = (O : Int) := by rw [i1, IntKind.wrap_i64]; omega
      have w2' : IntKind.i64.wrap (((k : Int) + 1) * (s : Int)) = (T : Int) := by rw [i2, IntKind.wrap_i64]; omega
      have hOE : O ≤ E := by omega
      have hEc : E ≤ c := by omega
      have hcO : ¬ (c = O) := by omega
      clear hagr hstep hfr hpl hrp hcount hEmin
      go_wp2_with fail
      have hbg : bd ≠ g := by have := (HA.out.a.lt g (.inl rfl)).1; omega
      have hml : m.length = l.length := HC.out.len
      have hOP : O + P.length = E := by rw [HPL.out]; exact e1
      have hrp : Rd wc 1 (.slice (some ⟨bd, od + O, none⟩) P.length (c - O)) P.length (bcells P) := by
        have h := HRP.out
        rw [← HPL.out] at h
        exact h
      have hput := put_bf b w.heap.size g S V m P st O (c - O) ⟨bd, od + O, none⟩ wc HA.out.a HC.out.ok (by rw [HC.out.tt, HC.out.len]) (by have := HSL.out; omega) hrp hbg (by omega) (by omega)
      rw [hOP, HPL.out] at hput
      refine hput.mono ?_
      clear hput hrp hbg i1 i2 i3 w1 w2' hcO hEc hOE e1
      rw [HFR.out]
      rintro e w4 hp
      rcases hp with ⟨hn, _⟩ | ⟨_, rfl, hp4⟩
      · exact absurd HAGR.out hn
      obtain ⟨V4, ha4, hb4⟩ := HA.out.post hp4
      have HA4 := Lib.hid ha4
      have HB4 := Lib.hid (HB.out.trans hb4)
      have cZ := ha4.cell hkG
      have fZ : w4.frozen? ⟨Z, k, none⟩ = false := ha4.gc.blk.2.2 k
      have lZ := ha4.gc.lt
      have HA5 := Lib.hid (ha4.set k true)
      have HB5 := Lib.hid (HB4.out.setCell (p := ⟨Z, k, none⟩) ha4.lo (.bool true))
      have hkn : k < n := hk
      have hkni : (k : Int) < n := by omega
      have hEO : (E : Int) - (O : Int) ≤ 500 := by omega
      have hlen4 : (st.add (O : Int) (E : Int)).l.length ≤ i + 1 := by have := add_len st (O : Int) (E : Int); have := HSL.out; omega
      have HL4 := Lib.hid hlen4
      have hgt4 : ∀ j, j + ord.length < i + 1 → (G.set k true)[j]? = some true := fun j hj => by
        rw [List.getElem?_set]
        split
        · rfl
        · rename_i hne
          exact HGT.out j (by
            rcases Nat.lt_or_ge (j + ord.length) i with h | h
            · exact h
            · have := HKI.out (by omega); omega)
      have HG4 := Lib.hid hgt4
      have hset : (G.set k true).length = n := by rw [List.length_set]; exact hgl
      clear hp4 ha4 hb4 hlen4 hgt4
      obtain ⟨D, HD⟩ : ∃ D, Hid ((G.set k true).count false = D) := ⟨_, Lib.hid rfl⟩
      have hDn : (D : Int) ≤ 500 := by
        have h1 : (G.set k true).count false ≤ (G.set k true).length := List.count_le_length
        rw [hset, HD.out] at h1; omega
      have hfull := came_full HST.out (by omega) l0
      rw [HD.out] at hfull
      have HFL := Lib.hid hfull
      clear hfull
      cases hg : G[k]
      iterate 2
        · rw [hg] at cZ
          have hcn := HCN.out
          rw [hg, HD.out] at hcn
          first
            | (rw [if_neg (by decide)] at hcn ⊢
               have hC1 : (C : Int) - 1 = (D : Int) := by omega
               have hC0 : (1 : Int) ≤ (C : Int) := by omega)
            | (rw [if_pos rfl] at hcn ⊢
               have hC1 : D = C := by omega
               subst hC1)
          clear hcn
          go_upto_region 22 with fail
          generalize w4.setCell ⟨Z, k, none⟩ (.bool true) = w5 at *
          have s5 := HB5.out.size
          clear cZ fZ lZ
          go_wp2_with fail
          refine (data_bf b w.heap.size g S V4 _ _ w5 HA5.out.a HST.out.ok (by have := HL4.out; omega) (by rw [HST.out.len]; omega)).mono ?_
          rintro e w6 ⟨v6, rfl, hb6, hv6⟩
          have HA6 := Lib.hid (HA5.out.keptF (Kept.of_below hb6))
          have HB6 := Lib.hid (HB5.out.trans (hb6.mono s5))
          by_cases hD : D = 0
          · subst hD
            have ht := HFL.out.2 rfl
            have hall : over m P O = l := came_all HST.out (by omega) l0 HD.out
            have hv6 := hv6 ht
            rw [hall] at hv6
            obtain ⟨a6, c6, rfl, _, _⟩ := (Rd.of_own hv6).form
            have HR6 := Lib.hid (Rd.of_own hv6)
            have HRL := Lib.hid (HR.out.below HB6.out)
            rw [beq_iff_eq.2 ht]
            clear hv6 ht hall hb6
            try rw [hC1]
            go_wp2_with (first
              | (refine wpList_str rfl 22 9 (.tmp 155) rfl Try.underlying22 Try.underlying5 Try.underlying9 HR6.out rfl ?_)
              | (refine wpList_str rfl 22 9 (.tmp 157) rfl Try.underlying22 Try.underlying5 Try.underlying9 HRL.out rfl ?_))
            go_roundw
            case rel => exact ⟨i + 1, V4, over m P O, _, G.set k true, by simp [HD.out], by go_num, by omega, HA6.out, HST, HL4, HG4, HB6.out⟩
            case measure => simp [intOf]; omega
          · have ht : (total (st.add (O : Int) (E : Int)).l == (st.add (O : Int) (E : Int)).tot) = false := beq_eq_false_iff_ne.2 (fun h => hD (HFL.out.1 h))
            have hd0 : ((D : Int) == 0) = false := beq_eq_false_iff_ne.2 (by omega)
            rw [ht]
            clear hv6 ht hb6 hD
            try rw [hC1]
            go_wp2_with fail
            go_roundw
            case rel => exact ⟨i + 1, V4, over m P O, _, G.set k true, by simp [HD.out], by go_num, by omega, HA6.out, HST, HL4, HG4, HB6.out⟩
            case measure => simp [intOf]; omega
    · obtain rfl : i = ord.length + n := by omega
      have hgl : G.length = n := by rw [HC.out.gl, HN.out]
      have hc0 : G.count false = 0 := by
        rw [List.count_eq_zero]
        intro hm
        obtain ⟨k, hk, hg⟩ := List.getElem_of_mem hm
        have h := HGT.out k (by omega)
        rw [List.getElem?_eq_getElem hk, hg] at h
        cases h
      have ht := (came_full HC.out (by omega) l0).2 hc0
      rw [HC.out.tt] at ht
      have hml : m.length = l.length := HC.out.len
      have HT := Lib.hid ht
      clear ht hc0 hml
      go_wp2_with fail
      refine (left_bf b w.heap.size g S V m st wr HA.out.a HC.out.ok (by rw [HC.out.tt, HC.out.len]) (by have := HSL.out; omega)).mono ?_
      rw [HT.out, show (m.length : Int) - (l.length : Int) = 0 by rw [HC.out.len]; omega]
      rintro e w7 ⟨rfl, hb7⟩
      have B7 := Lib.hid (HB.out.trans (hb7.mono sk))
      clear hb7
      have s7 := B7.out.size
      go_wp2_with fail
      refine (awake_any _).mono ?_
      rintro e w9 ⟨rfl, hb9⟩
      go_wp2_with fail
      go_ret
      exact ⟨by simp, B7.out.trans (hb9.mono s7)⟩
set_option maxRecDepth 100000 in
theorem any_any (l : List UInt8) (s : Int) (ord : List Int) (v u : Value) (w : World) (h : Rd w 1 v l.length (bcells l)) (h' : Rd w 1 u ord.length (ord.map (Value.int .i64))) : Calls Try.prog 3 #[v, .int .i64 s, u] w (TrueBelow w) := by
  by_cases hc : (0 < l.length ∧ l.length ≤ 500) ∧ (1 ≤ s ∧ s ≤ 500) ∧ ord.length ≤ 60
  · obtain ⟨n, rfl⟩ : ∃ n : Nat, s = n := ⟨s.toNat, by omega⟩
    exact any_in l n ord v u w h h' hc.1.1 hc.1.2 (by omega) (by omega) hc.2.2
  · obtain ⟨v, cp, rfl, h1, h2⟩ := h.form
    obtain ⟨u, cq, rfl, h3, h4⟩ := h'.form
    clear h h'
    rcases (by omega : l.length = 0 ∨ (0 < l.length ∧ 500 < l.length) ∨ ((0 < l.length ∧ l.length ≤ 500) ∧ s < 1) ∨ ((0 < l.length ∧ l.length ≤ 500) ∧ 1 ≤ s ∧ 500 < s) ∨ ((0 < l.length ∧ l.length ≤ 500) ∧ (1 ≤ s ∧ s ≤ 500) ∧ 60 < ord.length)) with h | ⟨h, h5⟩ | ⟨⟨h, h5⟩, h6⟩ | ⟨⟨h, h5⟩, h6, h7⟩ | ⟨⟨h, h5⟩, ⟨h6, h7⟩, h8⟩
    all_goals
      first | (have hne : ((l.length : Int) == 0) = true := beq_iff_eq.2 (by omega)) | (have hne : ((l.length : Int) == 0) = false := beq_eq_false_iff_ne.2 (by omega))
      clear hc
      try clear h
      go_enter Try.func3, Try.ntmps3
      go_wp2_with fail
      refine (awake_any _).mono ?_
      rintro e w2 ⟨rfl, hb⟩
      go_wp2_with fail
      go_ret
      exact ⟨rfl, hb⟩
end Go.Proofs.Ytkogodoaejoooaa
