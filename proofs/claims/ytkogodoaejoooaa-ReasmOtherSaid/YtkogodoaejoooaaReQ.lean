/- The law ReasmOther (chapter 7), walked. -/
import Derived.Test.YtkogodoaejoooaaReO
import Derived.Test.YtkogodoaejoooaaAlike
import Derived.Deep.CutBlock
namespace Go.Proofs.Ytkogodoaejoooaa
open Go.RowKit

theorem own_set {w : World} {B : Nat} {e : TypeId} {g n cap : Nat} {xs : List Value} (h : w.ownsRow B e 1 (.slice (some ⟨g, 0, none⟩) n cap) n xs) (i : Nat) (u : Value) : (w.setCell ⟨g, i, none⟩ u).ownsRow B e 1 (.slice (some ⟨g, 0, none⟩) n cap) n (xs.set i u) := by
  refine ⟨by rw [List.length_set]; exact h.1, ?_⟩
  rcases h.2 with ⟨h2, _⟩ | ⟨g', cap', cur, hv, hb, hh, h3, h4, h5, h6⟩
  · cases h2
  · cases hv
    refine .inr ⟨g, cap, cur.setIfInBounds i u, rfl, hb, Ob.set hh i u, h3, h4, by rw [Array.size_setIfInBounds]; exact h5, ?_⟩
    rw [Array.toList_setIfInBounds, List.take_set, h6]
theorem bc_set (l : List UInt8) (i : Nat) (d : UInt8) : (bcells l).set i (.int .u8 (d.toNat : Int)) = bcells (l.set i d) := by
  unfold bcells; rw [List.map_set]
theorem own_cell {w : World} {B : Nat} {e : TypeId} {g n cap : Nat} {l : List UInt8} (h : w.ownsRow B e 1 (.slice (some ⟨g, 0, none⟩) n cap) n (bcells l)) {i : Nat} (hi : i < l.length) : w.cell? ⟨g, i, none⟩ = some (.int .u8 (l[i].toNat : Int)) ∧ w.frozen? ⟨g, i, none⟩ = false := by
  obtain ⟨_, _, _, _, cs, hr, _, hcx⟩ := own_row h
  refine ⟨?_, hr.free _⟩
  rw [hr.cell]
  have h2 : (bcells l)[i]? = some (.int .u8 (l[i].toNat : Int)) := by unfold bcells; rw [List.getElem?_map, List.getElem?_eq_getElem hi]; rfl
  rw [← hcx, List.getElem?_take] at h2
  split at h2
  · exact h2
  · cases h2
theorem up_one (d : UInt8) : ((d + 1).toNat : Int) = ((d.toNat : Int) + 1) % 256 := by
  have : (d + 1).toNat = (d.toNat + 1) % 256 := by rw [UInt8.toNat_add]; rfl
  rw [this]; omega
theorem down_one (d : UInt8) : (((d + 1).toNat : Int) - 1) % 256 = (d.toNat : Int) := by
  rw [up_one]
  have : d.toNat < 256 := d.toNat_lt
  omega
theorem up_ne (d : UInt8) : d ≠ d + 1 := by
  intro h
  have h1 := congrArg UInt8.toNat h
  have h2 := up_one d
  have : d.toNat < 256 := d.toNat_lt
  omega
theorem one_add {n A : Nat} (h : A < n) : (⟨(n : Int), []⟩ : Is).add A (A + 1 : Nat) = ⟨n, [⟨A, (A + 1 : Nat)⟩]⟩ := by
  unfold Is.add
  rw [if_pos ⟨⟨by omega, by omega, by show ((A + 1 : Nat) : Int) ≤ n; omega⟩, by unfold Is.fr; show (((A + 1 : Nat) : Int) - A - 0) ≠ 0; omega⟩]; rfl
theorem one_ok {n A : Nat} (h : A < n) (h2 : n ≤ 1073741824) : (⟨n, [⟨A, (A + 1 : Nat)⟩]⟩ : Is).ok := ⟨by show (0 : Int) ≤ n; omega, by show (n : Int) ≤ _; omega, ⟨by show (0 : Int) ≤ A; omega, by show (A : Int) < (A + 1 : Nat); omega, by show ((A + 1 : Nat) : Int) ≤ n; omega, trivial⟩⟩
theorem one_fr (n A : Nat) : (⟨(n : Int), []⟩ : Is).fr A (A + 1 : Nat) = 1 := by
  unfold Is.fr
  show (((A + 1 : Nat) : Int) - A - 0) = 1
  omega
theorem one_total (A : Nat) : total [(⟨(A : Int), (A + 1 : Nat)⟩ : Rg)] = 1 := by
  show (((A + 1 : Nat) : Int) - A + 0) = 1; omega
theorem one_cov {A F T : Nat} (h1 : F ≤ A) (h2 : A < T) : cov [(⟨(A : Int), (A + 1 : Nat)⟩ : Rg)] F T = 1 := by
  show max (min ((A + 1 : Nat) : Int) T - max (A : Int) F) 0 + 0 = 1
  omega
theorem one_agr {l p : List UInt8} {A F : Nat} (h1 : F ≤ A) (h2 : A < F + p.length) : Agr [⟨(A : Int), (A + 1 : Nat)⟩] l p F ↔ l[A]? = p[A - F]? := by
  constructor
  · intro h
    exact h A (.inl ⟨Int.le_refl _, by show (A : Int) < (A + 1 : Nat); omega⟩) h1 h2
  · intro h x hx h3 h4
    rcases hx with ⟨h5, h6⟩ | hx
    · have h5 : (A : Int) ≤ x := h5
      have h6 : (x : Int) < (A + 1 : Nat) := h6
      have : x = A := by omega
      subst this; exact h
    · cases hx
set_option maxRecDepth 100000 in
set_option maxHeartbeats 4000000 in
theorem other_in (l : List UInt8) (x0 y0 : Int) (v : Value) (w : World) (h : Rd w 1 v l.length (bcells l)) (h0 : 2 ≤ l.length) (h1 : l.length ≤ 300) : Calls Try.prog 4 #[v, .int .i64 x0, .int .i64 y0] w (TrueBelow w) := by
  obtain ⟨bd, od, c, rfl, hlc, hcm, hbd, _⟩ := h.some (by omega) (by decide)
  have HR := Lib.hid h
  clear h
  obtain ⟨A, hA⟩ : ∃ A : Nat, x0 % (l.length : Int) = (A : Int) := ⟨(x0 % (l.length : Int)).toNat, by have := Int.emod_nonneg x0 (show (l.length : Int) ≠ 0 by omega); omega⟩
  have hA1 : A < l.length := by have := Int.emod_lt_of_pos x0 (show (0 : Int) < l.length by omega); omega
  obtain ⟨F, hF⟩ : ∃ F : Nat, y0 % ((A : Int) + 1) = (F : Int) := ⟨(y0 % ((A : Int) + 1)).toNat, by have := Int.emod_nonneg y0 (show ((A : Int) + 1) ≠ 0 by omega); omega⟩
  have hF1 : F ≤ A := by have := Int.emod_lt_of_pos y0 (show (0 : Int) < (A : Int) + 1 by omega); omega
  have HA := Lib.hid hA
  have HF := Lib.hid hF
  clear hA hF
  go_enter Try.func4, Try.ntmps4
  go_wp2_with fail
  refine (new_bf (l.length + 1) 1000 _ (by omega) (by decide)).mono ?_
  rintro e w2 ⟨b, g, S, rfl, hw2, hb2⟩
  have HW2 := Lib.hid hw2
  have B2 := Lib.hid hb2
  have s2 := hb2.size
  clear hw2 hb2
  go_wp2_with fail
  refine (round_any x0 l.length _ (by omega) (by omega)).mono ?_
  rw [HA.out]
  rintro e w1 ⟨rfl, rfl⟩
  go_wp2_with fail
  refine (round_any y0 ((A : Int) + 1) _ (by omega) (by omega)).mono ?_
  rw [HF.out]
  rintro e w1 ⟨rfl, rfl⟩
  have hAc : A + 1 ≤ c := by omega
  have hcA : ¬ (c = A) := by omega
  go_wp2_with fail
  have hp1 : (l.drop A).take (A + 1 - A) = [l[A]] := by rw [show A + 1 - A = 1 by omega, List.drop_eq_getElem_cons hA1]; rfl
  have hrp : Rd w2 1 (.slice (some ⟨bd, od + A, none⟩) 1 (c - A)) [l[A]].length (bcells [l[A]]) := by
    have h := (HR.out.below B2.out).part A (A + 1) (by omega) (by omega)
    rw [slAddr_some _ hcA, addr_add, hp1, show A + 1 - A = 1 by omega] at h
    exact h
  have hl1 : (List.replicate (l.length + 1) (0 : UInt8)).length = l.length + 1 := List.length_replicate
  have hbg : bd ≠ g := by have := (HW2.out.lt g (.inl rfl)).1; omega
  refine (put_bf b w.heap.size g S _ _ [l[A]] _ A (c - A) ⟨bd, od + A, none⟩ _ HW2.out (new_ok (by omega) (by omega)) (by rw [hl1]) (Nat.zero_le _) hrp hbg (by rw [hl1]; omega) (by rw [hl1]; simp; omega)).mono ?_
  rintro e w3 hp
  rcases hp with ⟨hn, _⟩ | ⟨_, rfl, hp3⟩
  · exact absurd (agr_nil _ _ _) hn
  have hb3 := hp3.below HW2.out
  obtain ⟨V3, hw3, _, _⟩ := hp3
  rw [show (A + [l[A]].length) = A + 1 from rfl] at hw3
  rw [one_add (show A < l.length + 1 by omega)] at hw3
  rw [show (A + [l[A]].length) = A + 1 from rfl, one_fr]
  obtain ⟨l1, HL1⟩ : ∃ l1, Hid (over (List.replicate (l.length + 1) 0) [l[A]] A = l1) := ⟨_, Lib.hid rfl⟩
  have hll : l1.length = l.length + 1 := by rw [← HL1.out, over_len (by rw [hl1]; simp; omega), hl1]
  have hlA : l1[A]? = some l[A] := by
    rw [← HL1.out]
    unfold over
    rw [List.append_assoc, List.getElem?_append_right (by rw [List.length_take]; omega), List.length_take, hl1, Nat.min_eq_left (by omega), Nat.sub_self]
    rfl
  rw [HL1.out] at hw3
  have HW3 := Lib.hid hw3
  have HLL := Lib.hid hll
  have HLA := Lib.hid hlA
  have B3 := Lib.hid (B2.out.trans hb3)
  have s3 := B3.out.size
  clear hw3 hb3 hp1 hrp hl1 hbg hll hlA HW2
  have hcF : ¬ (c = F) := by omega
  have E3 := Lib.hid (World.ownsRow_made (base := w3.heap.size) (e := TU) (size := 1) w3 #[] 0 (by simp) (by decide) rfl)
  have hrf : Rd w3 1 (.slice (some ⟨bd, od + F, none⟩) (l.length - F) (c - F)) (l.drop F).length (bcells (l.drop F)) := by
    have h := (HR.out.below B3.out).part F l.length (by omega) (Nat.le_refl _)
    rw [slAddr_some _ hcF, addr_add, List.take_of_length_le (by rw [List.length_drop]; omega)] at h
    exact h
  have R3 := Lib.hid (hrf.alloc (.cells #[] TU))
  clear hrf
  have hdl : (l.drop F).length = l.length - F := List.length_drop ..
  go_upto_region 10 with (first
    | (at_builtin; refine wpList_appAt rfl (.tmp 55) (.tmp 58) 22 rfl info_u8 Try.underlying22 rfl (by decide) E3.out R3.out rfl rfl (bcells_one _) (by omega) (by rw [World.size_alloc]; omega) ?_; intro v4 w4 ho4 hg4 hb4; have B4 := Lib.hid (((Below.refl w3.heap.size w3).alloc (Nat.le_refl _) (.cells #[] TU)).grown hg4 (by rw [World.size_alloc]; omega) (fun y hy => (E3.out.lt y hy).1)); rw [Nat.zero_add, List.nil_append] at ho4; have s4 := B4.out.size; have HO4 := Lib.hid (own_kept ho4 ((Kept.refl (fun _ => False) w4).alloc (.cells #[.int .u8 0] TU)) (fun _ _ h => h)); have HS4 := Lib.hid (Rd.one (k := 1) w4 #[.int .u8 0] TU rfl); have B4a := Lib.hid (B4.out.alloc s4 (.cells #[.int .u8 0] TU)); clear ho4 hg4 hb4)
    | (at_builtin; refine wpList_appAt rfl (.tmp 59) (.tmp 60) 22 rfl info_u8 Try.underlying22 rfl (by decide) HO4.out HS4.out rfl rfl (by simp [Value.oneCell']) (by omega) (Nat.le_trans s4 (by rw [World.size_alloc]; omega)) ?_; intro v5 w5 ho5 hg5 hb5; have B5 := Lib.hid (B4a.out.grown hg5 (Nat.le_trans s4 (by rw [World.size_alloc]; omega)) (fun y hy => (HO4.out.lt y hy).1)); have hX := Lib.hid (show bcells (l.drop F) ++ [Value.int .u8 0] = bcells (l.drop F ++ [0]) by rw [bcells_app]; rfl); rw [hX.out] at ho5; obtain ⟨gx, kx, hv5, hx5⟩ := own_some ho5 (by omega); clear hx5; subst hv5; have HO5 := Lib.hid ho5; clear ho5 hg5 hb5))
  have ho5 := HO5.out
  rw [hdl] at ho5
  obtain ⟨X, HXQ⟩ : ∃ X, Hid (l.drop F ++ [(0 : UInt8)] = X) := ⟨_, Lib.hid rfl⟩
  rw [HXQ.out] at ho5
  have hXl : X.length = l.length - F + 1 := by rw [← HXQ.out]; simp
  obtain ⟨j, hj⟩ : ∃ j, A - F = j := ⟨_, rfl⟩
  have hjX : j < X.length := by omega
  have hXj : X[j] = l[A] := by
    simp only [← HXQ.out, ← hj]
    rw [List.getElem_append_left (by rw [List.length_drop]; omega), List.getElem_drop]
    congr 1; omega
  have HB5 := Lib.hid (B3.out.trans (B5.out.mono s3))
  have HW5 := Lib.hid (HW3.out.below B5.out)
  obtain ⟨hx1, hx2⟩ : w3.heap.size ≤ gx ∧ gx < w5.heap.size := own_lt ho5 gx rfl
  have hxb : b ≠ gx := by have := HW3.out.ob.lt; omega
  have hxM : ¬ BM g S V3 gx := fun hh => by have := (HW3.out.lt gx hh).2; omega
  obtain ⟨cx, fx⟩ := own_cell ho5 hjX
  rw [hXj] at cx
  have HO5' := Lib.hid ho5
  clear ho5 HO5 HXQ B5 B4a HS4 HO4 B4 E3 R3 hdl hlc hcm hcF hcA hAc
  obtain ⟨d, HD⟩ : ∃ d, Hid (l[A] = d) := ⟨_, Lib.hid rfl⟩
  rw [HD.out] at cx hXj
  have HXJ := Lib.hid hXj
  have hki : (A : Int) - (F : Int) = (j : Int) := by omega
  have hkw : IntKind.i64.wrap ((A : Int) - (F : Int)) = (j : Int) := by rw [IntKind.wrap_i64]; omega
  have hjl : j < l.length - F + 1 := by omega
  have hw0 := s3
  have HJ := Lib.hid hj
  have HXL := Lib.hid hXl
  clear hXj hj hXl
  go_upto_region 11 with fail
  rw [← up_one]
  have HO6 := Lib.hid (own_set HO5'.out j (.int .u8 ((d + 1).toNat : Int)))
  rw [bc_set] at HO6
  have HW6 := Lib.hid (HW5.out.kept ((Kept.refl (Only gx) w5).setO (i := j) (v := .int .u8 ((d + 1).toNat : Int))) hxb (fun x hx hh => hxM (by rw [← show x = gx from hh]; exact hx)))
  have HB6 := Lib.hid (HB5.out.setCell (p := ⟨gx, j, none⟩) (show w.heap.size ≤ gx by omega) (.int .u8 ((d + 1).toNat : Int)))
  have hsz6 : (w5.setCell ⟨gx, j, none⟩ (.int .u8 ((d + 1).toNat : Int))).heap.size = w5.heap.size := by rw [Go.Deep.nblk_setCell]
  generalize w5.setCell ⟨gx, j, none⟩ (.int .u8 ((d + 1).toNat : Int)) = w6 at *
  clear cx fx
  have s6 := HB6.out.size
  obtain ⟨P, HP⟩ : ∃ P, Hid (X.set j (d + 1) = P) := ⟨_, Lib.hid rfl⟩
  rw [HP.out] at HO6
  have hPl : P.length = l.length - F + 1 := by rw [← HP.out, List.length_set]; exact HXL.out
  have hxg : gx ≠ g := fun hh => hxM (.inl hh)
  have hok := one_ok (n := l.length + 1) (A := A) (by omega) (by omega)
  have HOK := Lib.hid hok
  have hag : ¬ Agr [⟨(A : Int), (A + 1 : Nat)⟩] l1 P F := fun hh => by
    have h2 := (one_agr (l := l1) (p := P) hF1 (by omega)).1 hh
    rw [HLA.out, ← HP.out, HJ.out, List.getElem?_set_self (by have := HXL.out; omega), HD.out] at h2
    injection h2 with h2
    exact up_ne d h2
  have HAG := Lib.hid hag
  have HPL := Lib.hid hPl
  have hrp : Rd w6 1 (.slice (some ⟨gx, 0, none⟩) P.length kx) P.length (bcells P) := by
    have h := Rd.of_own HO6.out
    rw [hPl]; exact h
  have HRP := Lib.hid hrp
  clear hok hag hPl hrp
  go_wp2_with fail
  rw [← HPL.out]
  refine (put_bf b w.heap.size g S V3 l1 P _ F kx ⟨gx, 0, none⟩ _ HW6.out HOK.out (by rw [HLL.out]) (by simp) HRP.out hxg (by rw [HLL.out]; omega) (by rw [HLL.out, HPL.out]; omega)).mono ?_
  rintro e w7 hp
  rcases hp with ⟨_, rfl, hk7⟩ | ⟨hn, _⟩
  rotate_left
  · exact absurd hn HAG.out
  have HW7 := Lib.hid (HW6.out.keptF hk7)
  have HO7 := Lib.hid (own_kept HO6.out hk7 (fun _ _ h => h))
  have HB7 := Lib.hid (HB6.out.trans (hk7.belowAt s6 (fun _ h => h.elim)))
  have s7 := HB7.out.size
  have hg7 := hk7.size
  clear hk7
  go_wp2_with fail
  refine (left_bf b w.heap.size g S V3 l1 _ _ HW7.out HOK.out (by rw [HLL.out]) (by simp)).mono ?_
  rw [one_total, HLL.out, show (((l.length + 1 : Nat) : Int) - 1) = (l.length : Int) by omega]
  rintro e w8 ⟨rfl, hb8⟩
  have HW8 := Lib.hid (HW7.out.below hb8)
  have HO8 := Lib.hid (own_kept HO7.out (Kept.of_below (M := fun _ => False) hb8) (fun _ _ h => h))
  have HB8 := Lib.hid (HB7.out.trans (hb8.mono s7))
  have hg8 := hb8.size
  have hPj : P[j]'(by have := HPL.out; omega) = d + 1 := by simp only [← HP.out]; exact List.getElem_set_self _
  obtain ⟨cx, fx⟩ := own_cell HO8.out (i := j) (by have := HPL.out; omega)
  rw [hPj] at cx
  clear hb8 hPj
  rw [HPL.out]
  go_upto_region 15 with fail
  rw [show ((d.toNat : Int) % 256) = (d.toNat : Int) by have : d.toNat < 256 := d.toNat_lt; omega]
  have HO9 := Lib.hid (own_set HO8.out j (.int .u8 (d.toNat : Int)))
  have hPX : P.set j d = X := by
    rw [← HP.out, List.set_set]
    have h2 : X[j]'hjX = d := HXJ.out
    rw [← h2]
    exact List.set_getElem_self hjX
  rw [bc_set, hPX] at HO9
  have HW9 := Lib.hid (HW8.out.kept ((Kept.refl (Only gx) w8).setO (i := j) (v := .int .u8 (d.toNat : Int))) hxb (fun x hx hh => hxM (by rw [← show x = gx from hh]; exact hx)))
  have HB9 := Lib.hid (HB8.out.setCell (p := ⟨gx, j, none⟩) (show w.heap.size ≤ gx by omega) (.int .u8 (d.toNat : Int)))
  generalize w8.setCell ⟨gx, j, none⟩ (.int .u8 (d.toNat : Int)) = w9 at *
  have s9 := HB9.out.size
  have hag : Agr [⟨(A : Int), (A + 1 : Nat)⟩] l1 X F := (one_agr (l := l1) (p := X) hF1 (by have := HXL.out; omega)).2 (by
    rw [HLA.out, HJ.out, List.getElem?_eq_getElem hjX, HXJ.out, HD.out])
  have HAG2 := Lib.hid hag
  have hrp : Rd w9 1 (.slice (some ⟨gx, 0, none⟩) X.length kx) X.length (bcells X) := by
    have h := Rd.of_own HO9.out
    rw [HXL.out]; exact h
  have HRP2 := Lib.hid hrp
  clear hag hrp cx fx hPX HAG HO9 HO8 HW8 HB8
  go_wp2_with fail
  rw [← HXL.out]
  refine (put_bf b w.heap.size g S V3 l1 X _ F kx ⟨gx, 0, none⟩ _ HW9.out HOK.out (by rw [HLL.out]) (by simp) HRP2.out hxg (by rw [HLL.out]; omega) (by rw [HLL.out, HXL.out]; omega)).mono ?_
  rintro e w10 hp
  rcases hp with ⟨hn, _⟩ | ⟨_, rfl, hp10⟩
  · exact absurd HAG2.out hn
  have HB10 := Lib.hid (HB9.out.trans (hp10.below HW9.out))
  have s10 := HB10.out.size
  have hfr : (⟨((l.length + 1 : Nat) : Int), [⟨(A : Int), (A + 1 : Nat)⟩]⟩ : Is).fr F (F + X.length : Nat) = (l.length : Int) - F := by
    unfold Is.fr
    rw [one_cov hF1 (by have := HXL.out; omega)]
    have := HXL.out
    omega
  rw [hfr, HXL.out]
  clear hp10 hfr
  have hfin : (l.length : Int) - (F : Int) = ((l.length - F : Nat) : Int) := by omega
  rw [hfin]
  go_wp2_with fail
  refine (awake_any _).mono ?_
  rintro e w11 ⟨rfl, hb11⟩
  go_wp2_with fail
  go_ret
  exact ⟨by simp, HB10.out.trans (hb11.mono s10)⟩
set_option maxRecDepth 100000 in
theorem other_any (l : List UInt8) (x0 y0 : Int) (v : Value) (w : World) (h : Rd w 1 v l.length (bcells l)) : Calls Try.prog 4 #[v, .int .i64 x0, .int .i64 y0] w (TrueBelow w) := by
  by_cases hc : 2 ≤ l.length ∧ l.length ≤ 300
  · exact other_in l x0 y0 v w h hc.1 hc.2
  · obtain ⟨v, cp, rfl, h1, h2⟩ := h.form
    clear h
    rcases (by omega : l.length < 2 ∨ (2 ≤ l.length ∧ 300 < l.length)) with h | ⟨h, h3⟩
    all_goals
      clear hc
      go_enter Try.func4, Try.ntmps4
      go_wp2_with fail
      refine (awake_any _).mono ?_
      rintro e w2 ⟨rfl, hb⟩
      go_wp2_with fail
      go_ret
      exact ⟨rfl, hb⟩
end Go.Proofs.Ytkogodoaejoooaa
