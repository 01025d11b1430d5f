/- A message that comes in pieces (chapter 7): Put. -/
import Derived.Test.YtkogodoaejoooaaReA
import Derived.Deep.CutBlock
namespace Go.Proofs.Ytkogodoaejoooaa
open Go.RowKit

set_option maxRecDepth 100000 in
theorem putno_bf (b B g S : Nat) (V : Value) (l p : List UInt8) (s : Is) (off : Int) (v : Value) (w : World) (h : Bf b B g S V l s w) (hv : Rd w 1 v p.length (bcells p)) (hl : l.length ≤ 1073741824) (_ : p.length ≤ 1073741824) (hno : ¬ (0 ≤ off ∧ off + p.length ≤ l.length)) :
    Calls Try.prog 9 #[.pointer (some ⟨b, 0, none⟩), .int .i64 off, v] w fun e w' => e = .returned (.tuple #[.int .i64 0, .int .i64 1]) ∧ w = w' := by
  obtain ⟨a, c, rfl, _, _⟩ := hv.form
  obtain ⟨lb, cb, fb⟩ := h.ob.blk
  have c0 := cb 0
  clear cb h hv
  rcases (by omega : off < 0 ∨ (0 ≤ off ∧ (l.length : Int) < off) ∨ (0 ≤ off ∧ off ≤ l.length ∧ (l.length : Int) - off < p.length)) with h | ⟨h, h2⟩ | ⟨h, h2, h3⟩
  all_goals
    clear hno
    first | (have hd1 : decide ((l.length : Int) < off) = false := decide_eq_false (by omega)) | skip
    have hw1 : IntKind.i64.wrap ((l.length : Int) - off) = (l.length : Int) - off ∨ True := .inr trivial
    go_enter Try.func9, Try.ntmps9
    go_wp2_with fail
    go_ret2
    exact ⟨rfl, rfl⟩
/-- what is there already is what comes -/
def Agr (L : List Rg) (l p : List UInt8) (off : Nat) : Prop := ∀ x : Nat, mem L x → off ≤ x → x < off + p.length → l[x]? = p[x - off]?
def over (l p : List UInt8) (off : Nat) : List UInt8 := l.take off ++ p ++ l.drop (off + p.length)
theorem over_len {l p : List UInt8} {off : Nat} (h : off + p.length ≤ l.length) : (over l p off).length = l.length := by
  unfold over
  rw [List.length_append, List.length_append, List.length_take, List.length_drop]; omega
theorem bf_over {b B g S : Nat} {V : Value} {l p : List UInt8} {s : Is} {off : Nat} {w : World} (h : Bf b B g S V l s w) (hp : off + p.length ≤ l.length) : Bf b B g S V (over l p off) s (w.setCells g off (bcells p)) ∧ Kept (Only g) w (w.setCells g off (bcells p)) := by
  have hk := Kept.sets (bcells p) off w (Kept.refl (Only g) w)
  have hl := over_len hp
  obtain ⟨hBg, _, hcm, _, cs, hr, hcl, hcx⟩ := own_row h.row
  have e : cs = bcells l := by rw [← hcx, List.take_of_length_le (by omega)]
  subst e
  have hR := hr.sets (bcells p) off _ _ (by simp only [bcells_len]; exact hp)
  have e2 : (bcells l).take off ++ bcells p ++ (bcells l).drop (off + (bcells p).length) = bcells (over l p off) := by
    unfold over
    rw [bcells_app, bcells_app, bcells_len]
    simp [bcells, List.map_take, List.map_drop]
  rw [e2] at hR
  refine ⟨⟨by rw [hl]; exact h.ob.kept hk h.d1, ?_, h.set.kept hk (fun x hx hh => h.d3 (by rw [← show x = g from hh]; exact hx)), h.d1, h.d2, h.d3, h.bb⟩, hk⟩
  rw [hl]
  exact row_own hBg (Nat.le_refl _) hcm hR (by rw [bcells_len, hl, Nat.mul_one]) (by rw [List.take_of_length_le (by rw [bcells_len, hl]; omega)])
theorem over_nil (l p : List UInt8) (off : Nat) (hp : p = []) : over l p off = l := by
  subst hp
  unfold over
  simp
theorem part_eq {l p : List UInt8} {off F E : Nat} (h1 : off ≤ F) (h2 : F ≤ E) : ((l.drop F).take (E - F) = (p.drop (F - off)).take (E - off - (F - off))) ↔ ∀ x, F ≤ x → x < E → l[x]? = p[x - off]? := by
  constructor
  · intro h x hx hx2
    have := congrArg (fun z => z[x - F]?) h
    simp only [List.getElem?_take, List.getElem?_drop] at this
    rw [if_pos (by omega), if_pos (by omega), show F + (x - F) = x by omega, show F - off + (x - F) = x - off by omega] at this
    exact this
  · intro h
    refine List.ext_getElem? fun j => ?_
    rw [List.getElem?_take, List.getElem?_take]
    by_cases hj : j < E - F
    · rw [if_pos hj, if_pos (by omega), List.getElem?_drop, List.getElem?_drop, h (F + j) (by omega) (by omega), show F + j - off = F - off + j by omega]
    · rw [if_neg hj, if_neg (by omega)]
theorem slAddr_some (ad : Addr) {c i : Nat} (h : ¬ c = i) : slAddr (some ad) c i 1 = some (ad.add i) := by
  unfold slAddr
  rw [if_neg h, Nat.mul_one]; rfl
theorem mem_append {L M : List Rg} {x : Int} : mem (L ++ M) x ↔ mem L x ∨ mem M x := by
  induction L with
  | nil => show mem M x ↔ False ∨ mem M x; rw [false_or]
  | cons r L ih => show (_ ∨ mem (L ++ M) x) ↔ (_ ∨ mem L x) ∨ mem M x; rw [ih, or_assoc]
theorem agr_step {L : List Rg} {l p : List UInt8} {off k F E : Nat} (hk : k < L.length) (hF : (F : Int) = max L[k].f off) (hE : (E : Int) = min L[k].t (off + p.length : Nat)) : Agr (L.take (k + 1)) l p off ↔ Agr (L.take k) l p off ∧ ∀ x, F ≤ x → x < E → l[x]? = p[x - off]? := by
  unfold Agr
  rw [List.take_succ_eq_append_getElem hk]
  constructor
  · intro h
    refine ⟨fun x h1 => h x (mem_append.2 (.inl h1)), fun x h1 h2 => h x (mem_append.2 (.inr (.inl (by omega)))) (by omega) (by omega)⟩
  · rintro ⟨h1, h2⟩ x hx h3 h4
    rcases mem_append.1 hx with hx | hx
    · exact h1 x hx h3 h4
    · rcases hx with hx | hx
      · exact h2 x (by omega) (by omega)
      · exact hx.elim
theorem agr_take {L : List Rg} {l p : List UInt8} {off : Nat} (k : Nat) (h : Agr L l p off) : Agr (L.take k) l p off := by
  intro x hx
  refine h x ?_
  rw [← List.take_append_drop k L]
  exact mem_append.2 (.inl hx)
set_option maxRecDepth 100000 in
set_option maxHeartbeats 4000000 in
theorem put_bf (b B g S : Nat) (V : Value) (l p : List UInt8) (s : Is) (off c : Nat) (ad : Addr) (w : World) (h : Bf b B g S V l s w) (ho : s.ok) (ht : s.tot = l.length) (hn : s.l.length ≤ 1000) (hv : Rd w 1 (.slice (some ad) p.length c) p.length (bcells p)) (hvg : ad.block ≠ g) (hl : l.length ≤ 1073741824) (hoff : off + p.length ≤ l.length) :
    Calls Try.prog 9 #[.pointer (some ⟨b, 0, none⟩), .int .i64 off, .slice (some ad) p.length c] w fun e w' => (¬ Agr s.l l p off ∧ e = .returned (.tuple #[.int .i64 0, .int .i64 2]) ∧ Kept (fun _ => False) w w') ∨ (Agr s.l l p off ∧ e = .returned (.tuple #[.int .i64 (s.fr off (off + p.length : Nat)), .int .i64 0]) ∧ BfPost b B g S V (over l p off) (s.add off (off + p.length : Nat)) w w') := by
  have HB := Lib.hid h
  have HO := Lib.hid ho
  have HT := Lib.hid ht
  have HVG := Lib.hid hvg
  have hpc : p.length ≤ c := by obtain ⟨_, _, he, h1, _⟩ := hv.form; cases he; exact h1
  have hcm : c ≤ 9223372036854775807 := by obtain ⟨_, _, he, _, h1⟩ := hv.form; cases he; exact h1
  have HV := Lib.hid hv
  obtain ⟨lb, cb, fb⟩ := h.ob.blk
  have c0 : w.cell? ⟨b, 0, none⟩ = some (.slice (some ⟨g, 0, none⟩) l.length l.length) := cb 0
  have c1 : w.cell? ⟨b, 1, none⟩ = some (.pointer (some ⟨S, 0, none⟩)) := cb 1
  clear cb h hv hvg ho ht
  have hd1 : decide ((l.length : Int) < (off : Int)) = false := decide_eq_false (by omega)
  have hd2 : decide ((l.length : Int) - (off : Int) < (p.length : Int)) = false := decide_eq_false (by omega)
  have hlo : off ≤ l.length := by omega
  obtain ⟨T, HTT⟩ : ∃ T : Nat, Hid (off + p.length = T) := ⟨_, Lib.hid rfl⟩
  have hT1 : T ≤ l.length := by rw [← HTT.out]; exact hoff
  have hT2 : off ≤ T := by rw [← HTT.out]; omega
  rw [HTT.out]
  have hi1 : (off : Int) + (p.length : Int) = (T : Int) := by rw [← HTT.out]; rfl
  have HI1 := Lib.hid hi1
  clear hi1
  go_enter Try.func9, Try.ntmps9
  go_upto_region 4 with fail
  rw [HI1.out]
  go_wp2_with fail
  refine (ranges_iv S B V s _ HB.out.set (by omega)).mono ?_
  rintro e w1 ⟨v1, rfl, hv1, hb1⟩
  have HB1 := Lib.hid (HB.out.below hb1)
  have HK1 := Lib.hid (Kept.of_below (M := fun _ => False) hb1)
  have HV1 := Lib.hid (HV.out.below hb1)
  obtain ⟨a1, k1, rfl, _, _⟩ := (Rd.of_own hv1).form
  have HR1 := Lib.hid (Rd.of_own hv1)
  clear hb1 hv1 c0 c1 lb fb hd1 hd2
  have hsl : (s.l.length : Int) ≤ 1000 := by omega
  go_wp2_with fail
  go_loopw [50] (fun i wr => ∃ k : Nat, i = .int .i64 k ∧ k ≤ s.l.length ∧ Hid (Agr (s.l.take k) l p off) ∧ Kept (fun _ => False) w1 wr) (fun i _ => s.l.length - (intOf i).toNat)
  case atStart => exact ⟨0, rfl, Nat.zero_le _, Lib.hid (fun x hx => by cases hx), Kept.refl _ _⟩
  case round =>
    obtain ⟨k, rfl, hk, HAG, hkp⟩ := hrel
    have HKP := Lib.hid hkp
    by_cases hlt : k < s.l.length
    · obtain ⟨gr, o, rfl, hg, cwa⟩ := Rd.row rowRg (by decide) (HR1.out.keptF hkp) k hlt
      have c0 := cwa 0 (.int .i64 s.l[k].f) rfl
      have c1 := cwa 1 (.int .i64 s.l[k].t) rfl
      rw [Nat.add_zero] at c0
      have h3 := asc_le HO.out.asc s.l[k] (List.getElem_mem hlt)
      rw [HT.out] at h3
      have HST := Lib.hid (fun F E => agr_step (l := l) (p := p) (off := off) (F := F) (E := E) hlt)
      obtain ⟨rf, HRF⟩ : ∃ rf, Hid (s.l[k].f = rf) := ⟨_, Lib.hid rfl⟩
      obtain ⟨rt, HRT⟩ : ∃ rt, Hid (s.l[k].t = rt) := ⟨_, Lib.hid rfl⟩
      rw [HRF.out] at c0 h3
      rw [HRT.out] at c1 h3
      clear cwa hkp
      go_upto_region 7 with fail
      have OX := Lib.hid (Ob.new wr #[.int .i64 rf, .int .i64 rt] TR)
      have HK2 := Lib.hid (HKP.out.alloc (.cells #[.int .i64 rf, .int .i64 rt] TR))
      clear c0 c1
      generalize wr.alloc (.cells #[.int .i64 rf, .int .i64 rt] TR) = w2 at *
      generalize wr.heap.size = X at *
      obtain ⟨lx, cx, fx⟩ := OX.out.blk
      have c0 : w2.cell? ⟨X, 0, none⟩ = some (.int .i64 rf) := cx 0
      have c1 : w2.cell? ⟨X, 1, none⟩ = some (.int .i64 rt) := cx 1
      clear cx
      go_wp2_with fail
      refine wp_region_quiet_lit (by kernel_rfl) (by kernel_rfl) ?_
      try simp only [List.append]
      repeat (first | go_big_quiet_step (fail) | quiet_step (fail))
      refine wpQuiet_nil ?_
      intro w3 hw3
      have HK3 := Lib.hid (HK2.out.trans (kept_ex hw3))
      clear hw3 c0 c1 lx fx OX HK2
      obtain ⟨F, hF⟩ : ∃ F : Nat, (F : Int) = max rf (off : Int) := ⟨(max rf (off : Int)).toNat, by omega⟩
      have HF := Lib.hid hF
      rw [← hF]
      have hB3 := (HB1.out.keptF HK3.out)
      have HB3 := Lib.hid hB3
      have HV3 := Lib.hid (HV1.out.keptF HK3.out)
      obtain ⟨lb, cb, fb⟩ := hB3.ob.blk
      have c0 : w3.cell? ⟨b, 0, none⟩ = some (.slice (some ⟨g, 0, none⟩) l.length l.length) := cb 0
      clear cb hB3
      rcases (by omega : (F : Int) < min rt T ∨ ¬ (F : Int) < min rt T) with hFE | hFE
      · obtain ⟨E, hE⟩ : ∃ E : Nat, (E : Int) = min rt (T : Int) := ⟨(min rt (T : Int)).toNat, by omega⟩
        have HE := Lib.hid hE
        rw [← hE] at hFE ⊢
        have hFE' : F < E := by omega
        have hoF : off ≤ F := by omega
        have hET : E ≤ T := by omega
        have hEl : E ≤ l.length := by omega
        have hpe := part_eq (l := l) (p := p) hoF (Nat.le_of_lt hFE')
        have hag := HST.out F E (by rw [HRF.out]; exact hF) (by rw [HRT.out, HTT.out]; exact hE)
        have HAG1 := Lib.hid hag
        have HPE := Lib.hid hpe
        have hFT : F ≤ l.length := by omega
        have hle : p.length = T - off := by have := HTT.out; omega
        have HLE := Lib.hid hle
        have e1 : (F : Int) - (off : Int) = ((F - off : Nat) : Int) := by omega
        have e2 : (E : Int) - (off : Int) = ((E - off : Nat) : Int) := by omega
        have hw1 : IntKind.i64.wrap ((F : Int) - (off : Int)) = ((F - off : Nat) : Int) := by rw [IntKind.wrap_i64]; omega
        have hw2 : IntKind.i64.wrap ((E : Int) - (off : Int)) = ((E - off : Nat) : Int) := by rw [IntKind.wrap_i64]; omega
        have hFo : F - off ≤ E - off := by omega
        have hEo : E - off ≤ c := by omega
        have hdF : decide (F < E) = true := decide_eq_true hFE'
        clear hF hE hFE hpe hag hle e1 e2
        go_wp2_with fail
        refine wp_run (M := (fun _ => False)) (stages [([true, true, true, true, true, true, true, true, true, true, true, true, true, true, true, true, true, true, true, false, false, false], 19)] [false, false, false, false, false, false, false, false, false, false, false, false, false, false, false, false, false, false, false, false, true, true]) (by kernel_rfl) (by kernel_rfl) ?_
        refine run_stage rfl ?_
        simp only [pickAt]
        repeat (go_big_quiet_step (fail))
        refine wpQuiet_nil ?_
        refine run_want rfl ?_
        intro A hA
        go_simp
        have hu : Rd w3.drew 1 (.slice (some ⟨g, F, none⟩) (E - F) (l.length - F)) ((l.drop F).take (E - F)).length (bcells ((l.drop F).take (E - F))) := by
          have h := ((Rd.of_own HB3.out.row).keptF (Kept.drew (fun _ => False) w3)).part F E (Nat.le_of_lt hFE') hEl
          rw [show slAddr (some ⟨g, 0, none⟩) l.length F 1 = some ⟨g, F, none⟩ by rw [slAddr_some _ (by omega), addr_add, Nat.zero_add]] at h
          exact h
        have hv : Rd w3.drew 1 (.slice (some (ad.add (F - off))) (E - off - (F - off)) (c - (F - off))) ((p.drop (F - off)).take (E - off - (F - off))).length (bcells ((p.drop (F - off)).take (E - off - (F - off)))) := by
          have h := (HV3.out.keptF (Kept.drew (fun _ => False) w3)).part (F - off) (E - off) hFo (by have := HLE.out; omega)
          rw [show slAddr (some ad) c (F - off) 1 = some (ad.add (F - off)) from slAddr_some _ (by have := HLE.out; omega)] at h
          exact h
        refine (equal_by _ _ _ _ _ hu hv).mono ?_
        clear hu hv
        rintro e w4 ⟨rfl, rfl⟩
        refine hA _ _ ((Kept.refl _ _)) ?_
        try simp only [Act.put, List.setIfInBounds_toArray, List.set_cons_zero, List.set_cons_succ]
        clear A hA
        by_cases heq : (l.drop F).take (E - F) = (p.drop (F - off)).take (E - off - (F - off))
        · rw [decide_eq_true heq]
          have HAG2 := Lib.hid (HAG1.out.2 ⟨HAG.out, HPE.out.1 heq⟩)
          clear heq
          refine run_last ?_
          simp only [pickAt]
          repeat (go_big_quiet_step (fail))
          refine wpQuiet_nil ?_
          have HK4 := Lib.hid (HK3.out.trans (Kept.drew (fun _ => False) w3))
          go_wp2_with fail
          go_roundw
          case rel => exact ⟨k + 1, by go_num, by omega, HAG2, HK4.out⟩
          case measure => simp [intOf]; omega
        · rw [decide_eq_false heq]
          have HNG : Hid (¬ Agr s.l l p off) := Lib.hid (fun h => heq (HPE.out.2 (HAG1.out.1 (agr_take (k + 1) h)).2))
          clear heq
          refine run_last ?_
          simp only [pickAt]
          repeat (go_big_quiet_step (fail))
          refine wpQuiet_nil ?_
          have HK4 := Lib.hid ((HK1.out.trans HK3.out).trans (Kept.drew (fun _ => False) w3))
          go_wp2_with fail
          go_ret2
          exact .inl ⟨HNG.out, rfl, HK4.out⟩
      · have hFE' : ¬ ((F : Int) < min rt T) := hFE
        have hdF : decide ((F : Int) < min rt T) = false := decide_eq_false hFE
        have HAG2 : Hid (Agr (s.l.take (k + 1)) l p off) := Lib.hid (by
          refine (HST.out F ((min rt (T : Int)).toNat) (by rw [HRF.out]; exact hF) (by rw [HRT.out, HTT.out]; omega)).2 ⟨HAG.out, fun x h1 h2 => by omega⟩)
        clear hF hFE hFE'
        go_wp2_with fail
        refine wp_region_quiet_lit (by kernel_rfl) (by kernel_rfl) ?_
        try simp only [List.append]
        repeat (first | go_big_quiet_step (fail) | quiet_step (fail))
        refine wpQuiet_nil ?_
        intro w4 hw4
        have HK4 := Lib.hid (HK3.out.trans (kept_ex hw4))
        clear hw4
        go_wp2_with fail
        go_roundw
        case rel => exact ⟨k + 1, by go_num, by omega, HAG2, HK4.out⟩
        case measure => simp [intOf]; omega
    · obtain rfl : k = s.l.length := by omega
      have hag := HAG.out
      rw [List.take_length] at hag
      have HAGR := Lib.hid hag
      have hB2 := HB1.out.keptF hkp
      have HB2 := Lib.hid hB2
      have HV2 := Lib.hid (HV1.out.keptF hkp)
      have HK2 := Lib.hid (HK1.out.trans hkp)
      obtain ⟨lb, cb, fb⟩ := hB2.ob.blk
      have c0 : wr.cell? ⟨b, 0, none⟩ = some (.slice (some ⟨g, 0, none⟩) l.length l.length) := cb 0
      have c1 : wr.cell? ⟨b, 1, none⟩ = some (.pointer (some ⟨S, 0, none⟩)) := cb 1
      clear cb hB2 hag hkp
      have hle : p.length = T - off := by have := HTT.out; omega
      have hmay : s.may off T := ⟨by omega, by omega, by rw [HT.out]; omega⟩
      have hans : s.ans off T = (s.fr off T, 0) := by unfold Is.ans; rw [if_pos hmay]
      have HANS := Lib.hid hans
      clear hmay hans
      have hsz : (Try.prog.info? TU).map (·.size) = some 1 := by
        obtain ⟨i0, hi0, h0, h1, h2⟩ := info_parts info_u8
        rw [hi0]; simp [h1]
      obtain ⟨hBg, _, _, _, cs, hr, hcl, hcx⟩ := own_row HB2.out.row
      have hcp : ∀ d, d ≤ off → ∀ ty dc, (Builtin.copy_ #[22, 22] ty #[.slice (some ⟨g, d, none⟩) (l.length - off) dc, .slice (some ad) p.length c]).run Try.prog wr = .ok (goInt (Nat.min p.length (l.length - off))) (wr.setCells g d (bcells p)) := fun d hd ty dc =>
        run_copy_k wr _ _ ty TU g d (l.length - off) dc ad p.length c (bcells p) 1 Try.underlying22 hsz (by rw [bcells_len, show Nat.min p.length (l.length - off) = p.length from Nat.min_eq_left (by omega), Nat.mul_one])
          (fun t v ht => by
            have h := HV2.out
            rcases h with ⟨h5, _, _⟩ | ⟨a5, c5, h5, _, _, _, h6⟩
            · cases h5
            · cases h5; exact h6 t v ht)
          (fun t ht => by rw [hr.cell, List.getElem?_eq_getElem (by rw [hcl]; rw [bcells_len] at ht; omega)]; rfl) (fun t ht => hr.free _) (bcells_one p)
      have HCP := Lib.hid hcp
      have HW : Hid (∃ W1, Hid (∀ d, (d = off ∨ (off = l.length ∧ d = 0)) → wr.setCells g d (bcells p) = W1) ∧ Bf b B g S V (over l p off) s W1 ∧ Kept (Only g) wr W1) := Lib.hid (by
        obtain ⟨h1, h2⟩ := bf_over HB2.out hoff
        refine ⟨_, Lib.hid (fun d hd => ?_), h1, h2⟩
        rcases hd with rfl | ⟨h3, rfl⟩
        · rfl
        · have : p = [] := List.eq_nil_of_length_eq_zero (by omega)
          subst this; rfl)
      obtain ⟨W1, HW1, hbf, hkw⟩ := HW.out
      have HBF := Lib.hid hbf
      have HKW := Lib.hid hkw
      clear hcp hr hcl hcx hBg hbf hkw HW
      rcases (by omega : off < l.length ∨ off = l.length) with hol | hol
      iterate 2
        · first
            | (have hol' : off < l.length := hol
               have hne : ¬ (l.length = off) := by omega
               have HC1 := Lib.hid (HCP.out off (Nat.le_refl _))
               have HW2 := Lib.hid (HW1.out off (.inl rfl)))
            | (have HC1 := Lib.hid (HCP.out 0 (Nat.zero_le _))
               have HW2 := Lib.hid (HW1.out 0 (.inr ⟨hol, rfl⟩))
               have hce : (l.length = off) = True := eq_true hol.symm)
          rw [HW2.out] at HC1
          have HOL := Lib.hid hol
          clear HCP HW1 hol hle HW2
          have lb1 := HBF.out.ob.lt
          have c11 : W1.cell? ⟨b, 1, none⟩ = some (.pointer (some ⟨S, 0, none⟩)) := HBF.out.ob.blk.2.1 1
          go_wp2_with (refine wpList_copy_runI _ rfl (.tmp 90) (.tmp 91) 22 22 rfl _ _ rfl rfl (HC1.out _ _) ?_)
          refine (add_all S B V s off T _ HBF.out.set HO.out (by omega)).mono ?_
          rw [HANS.out]
          rintro e w5 ⟨rfl, hp5⟩
          have HP : Hid (BfPost b B g S V (over l p off) (s.add off T) w w5) := Lib.hid (by
            obtain ⟨V5, h1, h2, h3⟩ := hp5
            have hbf := HBF.out
            refine ⟨V5, ⟨hbf.ob.kept h2 hbf.d2, own_kept hbf.row h2 (fun x hx hh => hbf.d3 (by cases hx; exact hh)), h1, hbf.d1, fun hh => ?_, fun hh => ?_, hbf.bb⟩, ?_, fun x hx => ?_⟩
            · rcases h3 _ hh with h4 | h4
              · exact hbf.d2 h4
              · have := hbf.ob.lt; omega
            · rcases h3 _ hh with h4 | h4
              · exact hbf.d3 h4
              · have := (own_lt hbf.row g rfl).2; omega
            · exact ((kept_any HK2.out).trans (HKW.out.mono (fun x _ hx => .inl hx))).trans (h2.mono (fun x _ hx => .inr hx))
            · rcases hx with hx | hx
              · exact .inl (.inl hx)
              · rcases h3 x hx with h4 | h4
                · exact .inl (.inr h4)
                · exact .inr (Nat.le_trans (Nat.le_trans HK2.out.size HKW.out.size) h4))
          clear hp5
          go_wp2_with fail
          go_ret2
          exact .inr ⟨HAGR.out, rfl, HP.out⟩
end Go.Proofs.Ytkogodoaejoooaa
