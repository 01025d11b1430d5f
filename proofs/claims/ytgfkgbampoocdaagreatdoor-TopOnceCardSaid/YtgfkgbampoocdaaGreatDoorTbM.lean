/- TopOnce (chapter 20), walked. -/
import Derived.Test.YtgfkgbampoocdaaGreatDoorTbL
namespace Go.Proofs.YtgfkgbampoocdaaGreatDoor
open Go.RowKit

theorem new_ok {m : Int} (h0 : 1 ≤ m) (h1 : m ≤ 100000) : (⟨m, 1, []⟩ : Wd).ok := ⟨h0, h1, by show (1 : Int) ≤ 1; omega, by show (1 : Int) ≤ _; omega, List.Pairwise.nil, fun x hx => (by cases hx), by show ((0 : Nat) : Int) ≤ m; omega⟩
abbrev TBy : TypeId := 5
theorem data_ok {xE : Ev.Bn} {oE : Nat} {hE hE' : Ev.Hp} (hr : Ev.runNew = some (xE, oE, hE)) (hp : Ev.runPut xE oE hE = some hE') (hd : Ev.runDat xE oE hE' = true) (r : Rs) (m B : Nat) (V V2 out D : Value) (S : Wd) (n : Nat) (el : List Int) (x : Int) (a : Nat) (w : World) (h : Tw r m B V V2 out D S S n el w) (ha : Ob w a #[.int .u8 7] TBy) (hB : B ≤ a) (ho : S.ok) (hl : S.l.length < 100) (hn : n ≤ 1000) (hv : ¬ (x = 0 ∨ 1152921504606846976 < x)) (h0 : 0 ≤ x) :
    Calls Tryz.prog 7 #[.pointer (some ⟨r.R, 0, none⟩), .int .i64 3, .int .u64 x, .int .i64 1, .int .i64 0, .slice (some ⟨a, 0, none⟩) 1 1] w fun e w' => ∃ nn V' out' n', e = .returned (.tuple #[.int .i64 nn, .bool true, .int .i64 0]) ∧ Tw r m B V' V2 out' D (S.done x) S n' el w' ∧ n' ≤ n + 1 ∧ Below B w w' := by
  obtain ⟨xs, h1, h2⟩ := h.rv
  by_cases hi : S.is x = true
  · refine (data_is r B V S 0 none out n xs x 1 1 _ w h1 ho (by omega) ⟨by omega, by omega⟩ hi).mono ?_
    rintro e w' ⟨rfl, q, rfl⟩
    have e1 : S.done x = S := by
      unfold Wd.done
      rw [if_neg hv, if_pos hi]
    rw [e1]
    exact ⟨_, V, out, n, rfl, h.kept (Kept.dn _ _ q), Nat.le_succ _, below_dn (Below.refl _ _)⟩
  · have hi : S.is x = false := by simpa using hi
    refine (data_new hr hp hd r B V S out n xs x a w h1 h2 hn ho hl ⟨by omega, by omega⟩ h0 hi ha).mono ?_
    rintro e w' ⟨rfl, V', out', xs', k1, k2, k3, k4⟩
    obtain ⟨b1, b2⟩ := h.byte ha
    obtain ⟨j1, j2⟩ := h.first k1 k2 k3 (fun y hy => by
      rcases hy with rfl | hy
      · exact .inr ⟨hB, b1, b2⟩
      · exact .inl hy) k4
    exact ⟨_, V', out', n + 1, rfl, j1, Nat.le_refl _, j2⟩
theorem retire_tw (r : Rs) (m B : Nat) (V V2 out D : Value) (S T : Wd) (n : Nat) (el : List Int) (x : Int) (w : World) (h : Tw r m B V V2 out D S T n el w) (ho : S.ok) (h0 : 0 ≤ x) :
    Calls Tryz.prog 9 #[.pointer (some ⟨r.R, 0, none⟩), .int .i64 3, .int .u64 x] w fun e w' => ∃ V', e = .returned (.int .i64 0) ∧ Tw r m B V' V2 out D (S.goes (min x 1152921504606846977)) T n el w' ∧ Below B w w' := by
  obtain ⟨xs, h1, h2⟩ := h.rv
  refine (retire_rv r B V S out n xs x w h1 ho h0).mono ?_
  rintro e w' ⟨rfl, V', k1, k2, k3⟩
  obtain ⟨j1, j2⟩ := h.first k1 h2 k2 (fun y hy => .inl (.inr (.inr (.inr (.inl hy))))) (fun y hy => by
    rcases hy with hy | hy | hy | hy | hy
    · exact .inl (.inl hy)
    · exact .inl (.inr (.inl hy))
    · exact .inl (.inr (.inr (.inl hy)))
    · rcases k3 y hy with e | e
      · exact .inl (.inr (.inr (.inr (.inl e))))
      · exact .inr e
    · exact .inl (.inr (.inr (.inr (.inr hy)))))
  exact ⟨V', rfl, j1, j2⟩
theorem poll_tw (r : Rs) (m B : Nat) (V V2 out D : Value) (S T : Wd) (n : Nat) (el : List Int) (w : World) (h : Tw r m B V V2 out D S T n el w) :
    Calls Tryz.prog 11 #[.pointer (some ⟨r.R, 0, none⟩)] w fun e w' => ∃ x y p l c g out', e = .returned (.tuple #[.agg #[.int .i64 x, .int .u64 y, .slice p l c], .bool g]) ∧ (n = 0 → g = false) ∧ Tw r m B V V2 out' D S T (n - 1) el w' ∧ Below B w w' := by
  obtain ⟨xs, h1, h2⟩ := h.rv
  cases n with
  | zero =>
    refine (poll_nil r B V S 0 none out xs w h1).mono ?_
    rintro e w' ⟨⟨x, y, p, l, c, rfl⟩, hk⟩
    exact ⟨x, y, p, l, c, false, out, rfl, fun _ => rfl, h.kept hk, hk.belowAt h.size fun _ hh => hh.elim⟩
  | succ n =>
    refine (poll_one r B V S out n xs w h1 h2).mono ?_
    rintro e w' ⟨⟨x, y, p, l, c, rfl⟩, out', xs', k1, k2, k3, k4⟩
    obtain ⟨j1, j2⟩ := h.first k1 k2 k3 (fun y hy => by
      rcases hy with hy | hy
      · exact .inl (.inl hy)
      · exact .inl (.inr (.inr (.inr (.inr hy))))) (fun y hy => by
      rcases hy with hy | hy | hy | hy | hy
      · exact .inl (.inl hy)
      · exact .inl (.inr (.inl hy))
      · exact .inl (.inr (.inr (.inl hy)))
      · exact .inl (.inr (.inr (.inr (.inl hy))))
      · exact .inl (.inr (.inr (.inr (.inr (by rw [← k4]; exact hy))))))
    exact ⟨x, y, p, l, c, true, out', rfl, fun h => absurd h (Nat.succ_ne_zero n), j1, j2⟩
set_option maxRecDepth 100000 in
set_option maxHeartbeats 4000000 in
theorem once_in (dl rl : List Int) (v u : Value) (id : Int) (p : Option Addr) (L c : Nat) (w : World) (h : Rd w 1 v dl.length (dl.map (Value.int .u64))) (h' : Rd w 1 u rl.length (rl.map (Value.int .u64))) (hl : dl.length ≤ 30) (hr : rl.length ≤ 30) (hL : L ≤ 200) (hg : ∀ x ∈ dl, 0 ≤ x) (hg' : ∀ x ∈ rl, 0 ≤ x) :
    Calls Tryz.prog 3 #[v, u, .int .u64 id, .slice p L c] w (TrueBelow w) := by
  obtain ⟨xE, oE, hE, hE', hrun, _, hput, hdat⟩ := Ev.buf_ex
  obtain ⟨v, cp, rfl, h1, h2⟩ := h.form
  obtain ⟨u, cq, rfl, h3, h4⟩ := h'.form
  have HR := Lib.hid h
  have HR' := Lib.hid h'
  have HG := Lib.hid hg
  have HG' := Lib.hid hg'
  have HE := Lib.hid (And.intro hrun (And.intro hput hdat))
  clear h h' hg hg' hrun hput hdat
  go_enter Tryz.func3, Tryz.ntmps3
  go_wp2_with fail
  refine (new_rv _).mono ?_
  rintro e w1 ⟨r, rfl, hr1, hk1⟩
  have HV1 := Lib.hid hr1
  have HK1 := Lib.hid hk1
  clear hr1 hk1
  go_wp2_with fail
  refine (new_yes 100 _ (by decide)).mono ?_
  rintro e w2 ⟨rfl, hw, hb⟩
  have hk2 : Kept (fun _ => False) w1 w2 := Kept.of_below hb
  have HV2 := Lib.hid (HV1.out.keptF hk2)
  have hs := HK1.out.size
  have HT2 : Hid (Tw r w1.heap.size w.heap.size (.slice none 0 0) (.slice none 0 0) (.slice none 0 0) (.slice none 0 0) ⟨100, 1, []⟩ ⟨100, 1, []⟩ 0 [] w2) := Lib.hid ⟨⟨[], HV2.out, Ms.nil⟩, ⟨hw.ob, World.ownsRow_nil _ _ _ _, hw.ne, hs⟩, World.ownsRow_nil _ _ _ _, (fun x hx hh => by
    rcases hx with rfl | hx
    · have := (HV1.out.lt _ hh).2
      omega
    · cases hx), fun x hx => by cases hx⟩
  have HK2 := Lib.hid ((HK1.out.trans hk2).below)
  clear hw hb hk2 HV1 HV2 HK1
  generalize w1.heap.size = m at *
  go_wp2_with fail
  obtain ⟨B, hB⟩ : ∃ B, w.heap.size = B := ⟨_, rfl⟩
  rw [hB] at HT2 HK2 hs
  have HBQ := Lib.hid hB
  clear hB hs
  go_loopw [13, 14] (fun d i wr => ∃ (k n : Nat) (V V2 out : Value) (S : Wd) (el : List Int), i = .int .i64 k ∧ k ≤ dl.length ∧ Tw r m B V V2 out d S S n el wr ∧ S.ok ∧ S.most = 100 ∧ S.l.length ≤ k ∧ n ≤ k ∧ el.length ≤ k ∧ endedIn2 S el ∧ Below B w wr) (fun _ i _ => dl.length - (intOf i).toNat)
  case atStart => exact ⟨0, 0, _, _, _, _, [], rfl, Nat.zero_le _, HT2.out, new_ok (by decide) (by decide), rfl, Nat.le_refl _, Nat.le_refl _, Nat.le_refl _, fun x hx => (by cases hx), HK2.out⟩
  case round =>
    obtain ⟨k, n, V, V2, out, S, el, rfl, hk, ht, ho, hm, hsl, hnk, hek, he, hb⟩ := hrel
    obtain ⟨D, dc, rfl, _, _⟩ := (Rd.of_own ht.d).form
    have HT := Lib.hid ht
    have HO := Lib.hid ho
    have HM := Lib.hid hm
    have HN := Lib.hid he
    have HB := Lib.hid hb
    have sk : B ≤ wr.heap.size := ht.size
    clear ht ho hm he hb HT2 HK2
    by_cases hlt : k < dl.length
    · obtain ⟨b, o, rfl, c0⟩ := (HR.out.below (by rw [HBQ.out]; exact HB.out)).at k hlt
      have hbB : b < B := by
        obtain ⟨_, _, _, he, _, _, hb, _⟩ := HR.out.some (by omega) (by decide)
        cases he; rw [← HBQ.out]; exact hb
      have hx0 := HG.out dl[k] (List.getElem_mem hlt)
      have hkd : decide ((k : Int) < dl.length) = true := decide_eq_true (by omega)
      generalize dl[k] = x at *
      go_upto_block 1 with fail
      go_cut [13] from 61 to 111 (fun d wx => ∃ (n : Nat) (V V2 out : Value) (S : Wd) (el : List Int), Tw r m B V V2 out d S S n el wx ∧ S.ok ∧ S.most = 100 ∧ S.l.length ≤ k + 1 ∧ n ≤ k + 1 ∧ el.length ≤ k + 1 ∧ endedIn2 S el ∧ Below B w wx)
      case first =>
        have HA := Lib.hid (Ob.new wr #[.int .u8 7] TBy)
        by_cases hv : x = 0 ∨ 1152921504606846976 < x
        · have HV := Lib.hid hv
          clear hv
          go_wp2_with fail
          refine (data_bad r x 1 1 _ _ HV.out).mono ?_
          rintro e w3 ⟨rfl, rfl⟩
          have HT5 := Lib.hid (HT.out.kept ((Kept.refl _ wr).alloc (.cells #[.int .u8 7] TBy)))
          have HB5 := Lib.hid (HB.out.alloc sk (.cells #[.int .u8 7] TBy))
          have HL5 : Hid (S.l.length ≤ k + 1) := Lib.hid (by omega)
          have HC5 : Hid (n ≤ k + 1 ∧ el.length ≤ k + 1) := Lib.hid (by omega)
          generalize wr.alloc (.cells #[.int .u8 7] TBy) = w5 at *
          go_upto_if 99 with fail
          by_cases hkr : k < rl.length
          · obtain ⟨b2, o2, rfl, c4⟩ := (HR'.out.below (by rw [HBQ.out]; exact HB5.out)).at k hkr
            have hb2 : b2 < B := by
              obtain ⟨_, _, _, he, _, _, hb, _⟩ := HR'.out.some (by omega) (by decide)
              cases he; rw [← HBQ.out]; exact hb
            have hy0 := HG'.out rl[k] (List.getElem_mem hkr)
            have hkd2 : decide ((k : Int) < rl.length) = true := decide_eq_true (by omega)
            generalize rl[k] = y at *
            go_wp2_with fail
            refine (retire_tw r m B V V2 out _ S S n el y _ HT5.out HO.out hy0).mono ?_
            rintro e w7 ⟨V7, rfl, ht7, hb7⟩
            have HT7 := Lib.hid ht7
            have HB7 := Lib.hid (HB5.out.trans hb7)
            have c7 : w7.cell? ⟨b2, o2 + k, none⟩ = some (.int .u64 y) := (hb7.cell (p := ⟨b2, o2 + k, none⟩) hb2).trans c4
            clear ht7 hb7 c4
            go_wp2_with fail
            refine (retire_any m B V2 S y _ HT7.out.b HO.out hy0).mono ?_
            rintro e w8 ⟨rfl, hp8⟩
            obtain ⟨V8, ht8, hb8⟩ := HT7.out.second hp8
            have HT8 := Lib.hid ht8
            have HB8 := Lib.hid (HB7.out.trans hb8)
            clear ht8 hb8 hp8 c7
            go_wp2_with fail
            go_meet
            refine ⟨n, V7, V8, out, _, el, HT8.out, goes_ok HO.out _ (by omega), HM.out, Nat.le_trans (goes_len_le _ _) HL5.out, HC5.out.1, HC5.out.2, fun z hz => ⟨(HN.out z hz).1, (HN.out z hz).2.1, (goes_has _ _ _).2 ?_⟩, HB8.out⟩
            rcases (HN.out z hz).2.2 with h | h
            · exact .inl (by omega)
            · exact .inr h
          · have hkd2 : decide ((k : Int) < rl.length) = false := decide_eq_false (by omega)
            go_wp2_with fail
            go_meet
            exact ⟨n, V, V2, out, S, el, HT5.out, HO.out, HM.out, HL5.out, HC5.out.1, HC5.out.2, HN.out, HB5.out⟩
        · go_wp2_with fail
          refine (data_ok HE.out.1 HE.out.2.1 HE.out.2.2 r m B V V2 out _ S n el x _ _ (HT.out.kept ((Kept.refl _ wr).alloc (.cells #[.int .u8 7] TBy))) HA.out sk HO.out (by omega) (by omega) hv hx0).mono ?_
          rintro e w3 ⟨nn, V3, out3, n3, rfl, ht3, hn3, hb3⟩
          have HT3 := Lib.hid ht3
          have B3 := Lib.hid ((HB.out.alloc sk (.cells #[.int .u8 7] TBy)).trans hb3)
          have c3 : w3.cell? ⟨b, o + k, none⟩ = some (.int .u64 x) := ((((Below.refl B wr).alloc sk (.cells #[.int .u8 7] TBy)).trans hb3).cell (p := ⟨b, o + k, none⟩) hbB).trans c0
          have s3 := ht3.size
          clear ht3 hb3 c0 HT HB
          have HED := Lib.hid (HT3.out.kept ((Kept.refl (fun _ => False) w3).alloc (.cells #[.int .u64 x] TU)))
          have hdl2 : el.length ≤ 80 := by omega
          go_wp2_with (at_builtin; refine wpList_appAt rfl (.tmp 83) (.tmp 88) 22 rfl info_u64 Tryz.underlying22 rfl (by decide) HED.out.d (Rd.one (k := 1) w3 #[.int .u64 x] TU rfl) rfl rfl (fun u hu => by simp at hu; subst hu; rfl) (by omega) (by rw [World.size_alloc]; omega) ?_; intro v' w6 ho' hg' hb'; have HG8 := Lib.hid (And.intro ho' (And.intro hg' hb')); clear ho' hg' hb'; have c6 : w6.cell? ⟨b, o + k, none⟩ = some (.int .u64 x) := (((((Below.refl B w3).alloc s3 (.cells #[.int .u64 x] TU)).trans (HED.out.more HG8.out.1 HG8.out.2.1 HG8.out.2.2).2).cell (p := ⟨b, o + k, none⟩) hbB)).trans c3; clear c3)
          obtain ⟨h5, h6⟩ := HED.out.more HG8.out.1 HG8.out.2.1 HG8.out.2.2
          have HE5 := Lib.hid h5
          have B5 := Lib.hid ((B3.out.alloc s3 (.cells #[.int .u64 x] TU)).trans h6)
          clear h5 h6 HG8
          refine (done_any m B V2 S x _ HE5.out.b HO.out hx0).mono ?_
          rintro e w9 ⟨rfl, hp9⟩
          obtain ⟨V9, ht9, hb9⟩ := HE5.out.second hp9
          have HT9 := Lib.hid ht9
          have HB9 := Lib.hid (B5.out.trans hb9)
          have hc9 : S.code x = 0 := by
            unfold Wd.code
            rw [if_neg hv]
            by_cases hi : S.is x = true
            · rw [if_pos hi]
            · rw [if_neg hi, if_neg]
              intro hh
              have := HM.out
              omega
          have HO9 := Lib.hid (done_ok HO.out x hx0)
          have HM9 : Hid ((S.done x).most = 100) := Lib.hid (by rw [done_most, HM.out])
          have HL9 : Hid ((S.done x).l.length ≤ k + 1) := Lib.hid (Nat.le_trans (done_len_le S x) (by omega))
          have HC9 : Hid (n3 ≤ k + 1 ∧ (el ++ [x]).length ≤ k + 1) := Lib.hid (by rw [List.length_append, List.length_singleton]; omega)
          have HN9 : Hid (endedIn2 (S.done x) (el ++ [x])) := Lib.hid (fun y hy => by
            rcases List.mem_append.1 hy with hy | hy
            · exact ⟨(HN.out y hy).1, (HN.out y hy).2.1, (done_has hc9 y).2 (.inr (HN.out y hy).2.2)⟩
            · rw [List.mem_singleton] at hy
              subst hy
              exact ⟨by omega, by omega, (done_has hc9 y).2 (.inl rfl)⟩)
          clear hp9 ht9 hb9 c6 HE5 HED HT3 B3 B5 hc9
          go_upto_if 99 with fail
          by_cases hkr : k < rl.length
          · obtain ⟨b2, o2, rfl, c4⟩ := (HR'.out.below (by rw [HBQ.out]; exact HB9.out)).at k hkr
            have hb2 : b2 < B := by
              obtain ⟨_, _, _, he, _, _, hb, _⟩ := HR'.out.some (by omega) (by decide)
              cases he; rw [← HBQ.out]; exact hb
            have hy0 := HG'.out rl[k] (List.getElem_mem hkr)
            have hkd2 : decide ((k : Int) < rl.length) = true := decide_eq_true (by omega)
            generalize rl[k] = y at *
            go_wp2_with fail
            refine (retire_tw r m B V3 V9 out3 _ (S.done x) (S.done x) n3 (el ++ [x]) y _ HT9.out HO9.out hy0).mono ?_
            rintro e w7 ⟨V7, rfl, ht7, hb7⟩
            have HT7 := Lib.hid ht7
            have HB7 := Lib.hid (HB9.out.trans hb7)
            have c7 : w7.cell? ⟨b2, o2 + k, none⟩ = some (.int .u64 y) := (hb7.cell (p := ⟨b2, o2 + k, none⟩) hb2).trans c4
            clear ht7 hb7 c4
            go_wp2_with fail
            refine (retire_any m B V9 (S.done x) y _ HT7.out.b HO9.out hy0).mono ?_
            rintro e w8 ⟨rfl, hp8⟩
            obtain ⟨V8, ht8, hb8⟩ := HT7.out.second hp8
            have HT8 := Lib.hid ht8
            have HB8 := Lib.hid (HB7.out.trans hb8)
            clear ht8 hb8 hp8 c7
            go_wp2_with fail
            go_meet
            refine ⟨n3, V7, V8, out3, _, el ++ [x], HT8.out, goes_ok HO9.out _ (by omega), HM9.out, Nat.le_trans (goes_len_le _ _) HL9.out, HC9.out.1, HC9.out.2, fun z hz => ⟨(HN9.out z hz).1, (HN9.out z hz).2.1, (goes_has _ _ _).2 ?_⟩, HB8.out⟩
            rcases (HN9.out z hz).2.2 with h | h
            · exact .inl (by omega)
            · exact .inr h
          · have hkd2 : decide ((k : Int) < rl.length) = false := decide_eq_false (by omega)
            go_wp2_with fail
            go_meet
            exact ⟨n3, V3, V9, out3, S.done x, el ++ [x], HT9.out, HO9.out, HM9.out, HL9.out, HC9.out.1, HC9.out.2, HN9.out, HB9.out⟩
      case rest =>
      obtain ⟨n1, V1, V21, out1, S1, el1, ht, ho, hm, hsl, hnk, hek, he, hb⟩ := hcut
      go_wp2_with fail
      go_roundw
      case rel => exact ⟨k + 1, n1, V1, V21, out1, S1, el1, by go_num, by omega, ht, ho, hm, hsl, hnk, hek, he, hb⟩
      case measure => simp [intOf]; omega
    · have hkd : decide ((k : Int) < dl.length) = false := decide_eq_false (by omega)
      have hn60 : n ≤ 30 := by omega
      have he60 : el.length ≤ 30 := by omega
      go_wp2_with fail
      go_loopw [18] (fun i wq => ∃ (j n' : Nat) (out' : Value), i = .int .i64 j ∧ j ≤ 60 ∧ n' + j ≤ 60 ∧ Tw r m B V V2 out' (.slice D el.length dc) S S n' el wq ∧ Below B w wq) (fun i _ => 60 - (intOf i).toNat)
      case atStart => exact ⟨0, n, out, rfl, by decide, by omega, HT.out, HB.out⟩
      case round =>
        obtain ⟨j, n', out', rfl, hj, hnj, ht, hb⟩ := hrel
        have HT1 := Lib.hid ht
        have HB1 := Lib.hid hb
        clear ht hb
        by_cases hj6 : j < 60
        · have hjd : decide ((j : Int) < 60) = true := decide_eq_true (by omega)
          go_wp2_with fail
          refine (poll_tw r m B V V2 out' _ S S n' el _ HT1.out).mono ?_
          rintro e w3 ⟨px, py, pp, pl, pc, pg, out3, rfl, _, ht3, hb3⟩
          have HT3 := Lib.hid ht3
          have HB3 := Lib.hid (HB1.out.trans hb3)
          clear ht3 hb3
          go_wp2_with fail
          go_roundw
          case rel => exact ⟨j + 1, n' - 1, out3, by go_num, by omega, by omega, HT3.out, HB3.out⟩
          case measure => simp [intOf]; omega
        · have hjd : decide ((j : Int) < 60) = false := decide_eq_false (by omega)
          have hn0 : n' = 0 := by omega
          subst hn0
          go_wp2_with fail
          go_loopw [19] (fun i wq => ∃ (j : Nat), i = .int .i64 j ∧ j ≤ el.length ∧ Tw r m B V V2 out' (.slice D el.length dc) S S 0 el wq ∧ Below B w wq) (fun i _ => el.length - (intOf i).toNat)
          case atStart => exact ⟨0, rfl, Nat.zero_le _, HT1.out, HB1.out⟩
          case round =>
            obtain ⟨t, rfl, htl, ht, hb⟩ := hrel
            have HT2 := Lib.hid ht
            have HB2 := Lib.hid hb
            clear ht hb
            by_cases htt : t < el.length
            · obtain ⟨b3, o3, rfl, c4⟩ := (Rd.of_own HT2.out.d).at t htt
              have hz := HN.out _ (List.getElem_mem htt)
              have htd : decide ((t : Int) < el.length) = true := decide_eq_true (by omega)
              generalize el[t] = z at *
              have hzi : S.is z = true := (is_iff _ _).2 ⟨hz.1, hz.2.2⟩
              obtain ⟨xs, k1, k2⟩ := HT2.out.rv
              have HV2 := Lib.hid k1
              have HZ := Lib.hid (And.intro hzi hz)
              clear k1 k2 hzi hz
              go_wp2_with fail
              refine (data_is r B V S 0 none out' 0 xs z L c p _ HV2.out HO.out (by omega) ⟨HZ.out.2.1, HZ.out.2.2.1⟩ HZ.out.1).mono ?_
              rintro e w5 ⟨rfl, q5, rfl⟩
              go_wp2_with fail
              refine (is_any m B V2 S z _ HT2.out.b.dn HO.out).mono ?_
              rw [HZ.out.1]
              rintro e w6 ⟨rfl, q6, rfl⟩
              go_wp2_with fail
              refine (ended_any r B V S 0 none out' 0 xs z _ (HV2.out.keptF (Kept.dn _ _ _)) HO.out).mono ?_
              rw [HZ.out.1]
              rintro e w7 ⟨rfl, q7, rfl⟩
              go_wp2_with fail
              go_roundw
              case rel => exact ⟨t + 1, by go_num, by omega, HT2.out.kept (Kept.dn _ _ _), below_dn HB2.out⟩
              case measure => simp [intOf]; omega
            · have htd : decide ((t : Int) < el.length) = false := decide_eq_false (by omega)
              go_wp2_with fail
              refine (poll_tw r m B V V2 out' _ S S 0 el _ HT2.out).mono ?_
              rintro e w3 ⟨px, py, pp, pl, pc, pg, out3, rfl, hpg, ht3, hb3⟩
              obtain rfl := hpg rfl
              have hs3 := ht3.size
              have HT3 := Lib.hid (ht3.kept ((Kept.refl _ w3).alloc (.cells #[.int .i64 px, .int .u64 py, .slice pp pl pc] TMsg)))
              have HB3 := Lib.hid ((HB2.out.trans hb3).alloc hs3 (.cells #[.int .i64 px, .int .u64 py, .slice pp pl pc] TMsg))
              have hs4 : B ≤ (w3.alloc (.cells #[.int .i64 px, .int .u64 py, .slice pp pl pc] TMsg)).heap.size := by rw [World.size_alloc]; omega
              clear ht3 hb3
              obtain ⟨xs, k1, k2⟩ := HT3.out.rv
              have HV3 := Lib.hid k1
              clear k1 k2
              go_wp2_with fail
              refine (ended_any r B V S 0 none out3 _ xs id _ HV3.out HO.out).mono ?_
              rintro e w5 ⟨rfl, q5, rfl⟩
              go_wp2_with fail
              refine (is_any m B V2 S id _ HT3.out.b.dn HO.out).mono ?_
              rintro e w6 ⟨rfl, q6, rfl⟩
              go_wp2_with fail
              refine (awake_any _).mono ?_
              rintro e w7 ⟨rfl, hb7⟩
              go_wp2_with fail
              go_ret
              refine ⟨rfl, ?_⟩
              rw [HBQ.out]
              exact (below_dn HB3.out).trans (hb7.mono hs4)
set_option maxRecDepth 100000 in
theorem once_any (dl rl : List Int) (v u : Value) (id : Int) (p : Option Addr) (L c : Nat) (w : World) (h : Rd w 1 v dl.length (dl.map (Value.int .u64))) (h' : Rd w 1 u rl.length (rl.map (Value.int .u64))) (hg : ∀ x ∈ dl, 0 ≤ x) (hg' : ∀ x ∈ rl, 0 ≤ x) :
    Calls Tryz.prog 3 #[v, u, .int .u64 id, .slice p L c] w (TrueBelow w) := by
  by_cases hc : (dl.length ≤ 30 ∧ rl.length ≤ 30) ∧ L ≤ 200
  · exact once_in dl rl v u id p L c w h h' hc.1.1 hc.1.2 hc.2 hg hg'
  · have hc2 : 30 < dl.length ∨ (dl.length ≤ 30 ∧ 30 < rl.length) ∨ (dl.length ≤ 30 ∧ rl.length ≤ 30 ∧ 200 < L) := by omega
    obtain ⟨v, cp, rfl, h1, h2⟩ := h.form
    obtain ⟨u, cq, rfl, h3, h4⟩ := h'.form
    clear h h' hc
    rcases hc2 with e1 | ⟨e1, e2⟩ | ⟨e1, e2, e3⟩
    all_goals
      go_enter Tryz.func3, Tryz.ntmps3
      go_wp2_with fail
      refine (awake_any _).mono ?_
      rintro e w3 ⟨rfl, hb3⟩
      go_wp2_with fail
      go_ret
      exact ⟨rfl, hb3⟩
end Go.Proofs.YtgfkgbampoocdaaGreatDoor
