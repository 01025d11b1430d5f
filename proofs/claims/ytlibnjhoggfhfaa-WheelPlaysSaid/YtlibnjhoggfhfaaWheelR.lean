/- The reference's wheel (chapter 2): the contracts of its calls. -/
import Derived.Test.YtlibnjhoggfhfaaWheelFu
import Derived.Test.YtlibnjhoggfhfaaWheelCp
namespace Go.Proofs.Ytlibnjhoggfhfaa
open Go.RowKit

abbrev TRW : TypeId := 44
abbrev TRD : TypeId := 54
theorem kept_ex {w W : World} (h : ∃ n, W = w.drewN n) : Kept (fun _ => False) w W := by
  obtain ⟨n, rfl⟩ := h
  exact Kept.dn _ _ _
theorem kept_any {M : Nat → Prop} {w w' : World} (h : Kept (fun _ => False) w w') : Kept M w w' := h.mono fun _ _ hh => hh.elim
theorem info_red : (Try.prog.info? TRD).map (fun i => (i.zero, i.size, i.bytes)) = some (some (.agg #[.int .i64 0, .int .i64 0, .int .i64 0]), 3, 24) := by kernel_rfl
theorem then_max {s : Wl} (h : s.ok) (tn : Int) : max s.now (min tn 1125899906842624) = s.then' tn := by
  have := h.n1
  unfold Wl.then' clampI
  split
  · omega
  · split <;> omega
theorem flat_takeD (l : List Du) (k : Nat) : (l.flatMap Du.row).take (k * 3) = (l.take k).flatMap Du.row := flat_take rowDu l k
theorem flat_dropD (l : List Du) (k : Nat) : (l.flatMap Du.row).drop (k * 3) = (l.drop k).flatMap Du.row := flat_drop rowDu l k
theorem rd_behindD {w : World} {l : List Du} {a : Option Addr} {c : Nat} (h : Rd w 3 (.slice a l.length c) l.length (l.flatMap Du.row)) (k : Nat) (hk : k ≤ l.length) : Rd w 3 (.slice (slAddr a c k 3) (l.length - k) (c - k)) (l.length - k) ((l.drop k).flatMap Du.row) := by
  have h1 := h.sub k l.length hk (Nat.le_refl _)
  rw [flat_dropD] at h1
  rw [List.take_of_length_le (by rw [flat_len rowDu, List.length_drop]; omega)] at h1
  exact h1
set_option maxRecDepth 100000 in
set_option maxHeartbeats 4000000 in
theorem radv (b B0 : Nat) (V : Value) (s : Wl) (tn : Int) (w : World) (h : Wh TRW TRD b B0 V s w) (ho : s.ok) :
    Calls Try.prog 18 #[.pointer (some ⟨b, 0, none⟩), .int .i64 tn] w fun e w' => ∃ v', e = .returned v' ∧ w'.ownsRow w.heap.size TRD 3 v' (s.out tn).length ((s.out tn).flatMap Du.row) ∧ WhPost TRW TRD b B0 V (s.goes tn) w w' := by
  have HW := Lib.hid h
  have HO := Lib.hid ho
  clear h ho
  obtain ⟨a, c, hv, _, _⟩ := (Rd.of_own HW.out.own).form
  have HV := Lib.hid hv
  clear hv
  have hlen : s.l.length ≤ 100000 := by have := HO.out.ln; have := HO.out.a1; omega
  obtain ⟨lb, cb, fb⟩ := HW.out.ob.blk
  have c1 : w.cell? ⟨b, 1, none⟩ = some (.int .i64 s.now) := cb 1
  clear cb
  go_enter Try.func18, Try.ntmps18
  go_wp2_with fail
  rw [then_max HO.out]
  have HN := Lib.hid (then_b HO.out tn)
  obtain ⟨cle, ctk, cdr⟩ := cnt_split HO.out.up (s.then' tn)
  have HTK := Lib.hid ctk
  have HDR := Lib.hid cdr
  obtain ⟨N, HNE⟩ : ∃ N, Hid (s.then' tn = N) := ⟨_, Lib.hid rfl⟩
  obtain ⟨K, HKE⟩ : ∃ K, Hid (s.cnt (s.then' tn) = K) := ⟨_, Lib.hid rfl⟩
  rw [HKE.out] at HTK HDR cle
  rw [HNE.out] at HTK HDR
  rw [HNE.out]
  clear ctk cdr
  have ob1 := Lib.hid (Ob.cast (HW.out.ob.set 1 (.int .i64 N)) (show _ = #[.int .i64 s.most, .int .i64 N, .int .i64 s.last, V] from rfl))
  have HK1 := Lib.hid ((Kept.refl (WM b V) w).set ⟨b, 1, none⟩ (.int .i64 N) (fun _ => .inl rfl))
  have ow1 := Lib.hid (own_kept HW.out.own ((Kept.refl (Only b) w).setO (i := 1) (v := .int .i64 N)) (fun y hy hh => HW.out.ne (by rw [hy, show y = b from hh])))
  generalize w.setCell ⟨b, 1, none⟩ (.int .i64 N) = w1 at *
  clear c1 lb fb
  go_loopw [5] (fun i wr => ∃ k : Nat, i = .int .i64 k ∧ k ≤ K ∧ Kept (fun _ => False) w1 wr) (fun i _ => K - (intOf i).toNat)
  case atStart => exact ⟨0, rfl, Nat.zero_le _, Kept.refl _ _⟩
  case round =>
    obtain ⟨k, rfl, hk, hkp⟩ := hrel
    have ob2 := Lib.hid (ob1.out.kept hkp id)
    have ow2 := Lib.hid (own_kept ow1.out hkp (fun _ _ h => h))
    have HKP := Lib.hid hkp
    obtain ⟨lb, cb, fb⟩ := ob2.out.blk
    have c1 : wr.cell? ⟨b, 1, none⟩ = some (.int .i64 N) := cb 1
    have c3 : wr.cell? ⟨b, 3, none⟩ = some (.slice a s.l.length c) := by rw [cb 3, HV.out]; rfl
    have hrd := Rd.of_own ow2.out
    rw [HV.out] at hrd
    clear hkp
    rcases (by omega : k < K ∨ (k = K ∧ K < s.l.length) ∨ (k = K ∧ K = s.l.length)) with hlt | ⟨rfl, hlt⟩ | ⟨rfl, hlt⟩
    · have hkn : k < s.l.length := by omega
      obtain ⟨g, o, rfl, hg, cwa⟩ := Rd.row rowDu (by decide) hrd k hkn
      have c0 := cwa 0 (.int .i64 s.l[k].at') rfl
      rw [Nat.add_zero] at c0
      have hat : s.l[k].at' ≤ N := HTK.out _ (by rw [List.mem_take_iff_getElem]; exact ⟨k, by omega, rfl⟩)
      generalize s.l[k].at' = y at *
      clear cwa cb hrd
      go_wp2_with fail
      refine wp_region_quiet_lit (by kernel_rfl) (by kernel_rfl) ?_
      try simp only [List.append]
      repeat (first | go_big_quiet_step (fail) | quiet_step (fail))
      refine wpQuiet_nil ?_
      intro W hW
      have hkW := kept_ex hW
      have HKW := Lib.hid (HKP.out.trans hkW)
      clear hkW hW
      go_wp2_with fail
      go_roundw
      case rel => exact ⟨k + 1, by go_num, by omega, HKW.out⟩
      case measure => simp [intOf]; omega
    iterate 2
      · first
          | (obtain ⟨g, o, he, hg, cwa⟩ := Rd.row rowDu (by decide) hrd k hlt
             have c0 := cwa 0 (.int .i64 s.l[k].at') rfl
             rw [Nat.add_zero] at c0
             have hat : N < s.l[k].at' := HDR.out _ (by rw [List.drop_eq_getElem_cons hlt]; exact .head _)
             generalize s.l[k].at' = y at *
             clear cwa
             rw [he] at c3
             clear he)
          | (have hdk : decide (k < s.l.length) = false := decide_eq_false (by omega)
             have hle : k ≤ s.l.length := by omega
             have HLT := Lib.hid hlt
             clear hlt)
        clear cb hrd
        go_wp2_with fail
        refine wp_region_quiet_lit (by kernel_rfl) (by kernel_rfl) ?_
        try simp only [List.append]
        repeat (first | go_big_quiet_step (fail) | quiet_step (fail))
        refine wpQuiet_nil ?_
        intro W hW
        have hkW := kept_ex hW
        have ob3 := Lib.hid (ob2.out.kept hkW id)
        have ow3 := Lib.hid (own_kept ow2.out hkW (fun _ _ h => h))
        have HK3 := Lib.hid (HK1.out.trans ((HKP.out.trans hkW).mono (N := WM b V) fun _ _ h => h.elim))
        have hrd3 := Rd.of_own ow3.out
        rw [HV.out] at hrd3
        have HRD := Lib.hid hrd3
        clear hkW hW c1 c3 fb lb hrd3
        obtain ⟨lb, cb, fb⟩ := ob3.out.blk
        have c3 : W.cell? ⟨b, 3, none⟩ = some (.slice a s.l.length c) := by rw [cb 3, HV.out]; rfl
        have E0 : Hid ((W.alloc (.cells #[] TRD)).ownsRow W.heap.size TRD 3 (.slice (some ⟨W.heap.size, 0, none⟩) 0 0) 0 []) := Lib.hid (World.ownsRow_made (base := W.heap.size) (e := TRD) (size := 3) W #[] 0 (by simp) (by decide) rfl)
        have R0 := Lib.hid ((rd_tokD HRD.out k (by omega)).alloc (.cells #[] TRD))
        have hko : k ≤ s.l.length := by omega
        have h1t := one_du (l := s.l.take k) (fun x hx => HO.out.one x (List.mem_of_mem_take hx))
        have h1d := one_du (l := s.l.drop k) (fun x hx => HO.out.one x (List.mem_of_mem_drop hx))
        clear cb
        go_wp2_with (first
          | (refine wpList_slTo rfl _ _ _ rfl Try.underlying42 info_red rfl rfl (by omega) ?_)
          | (at_builtin; refine wpList_appAt rfl (.tmp 41) (.tmp 47) 42 rfl info_red Try.underlying42 rfl (by decide) E0.out R0.out rfl rfl h1t (by omega) (by simp) ?_; intro v8 w8 ho8 hg8 hb8; have B8 := Lib.hid (((Below.refl W.heap.size W).alloc (Nat.le_refl _) (.cells #[] TRD)).grown hg8 (by simp) (fun y hy => (E0.out.lt y hy).1)); have s8 := B8.out.size; have lb8 := Nat.lt_of_lt_of_le lb s8; have c38 : w8.cell? ⟨b, 3, none⟩ = some (.slice a s.l.length c) := (B8.out.cell (p := ⟨b, 3, none⟩) lb).trans c3; have E8 := Lib.hid (World.ownsRow_made (base := w8.heap.size) (e := TRD) (size := 3) w8 #[] 0 (by simp) (by decide) rfl); have R8 := Lib.hid ((rd_behindD (HRD.out.below B8.out) k (by omega)).alloc (.cells #[] TRD)))
          | (refine wpList_slFrom rfl _ _ _ rfl Try.underlying42 info_red rfl rfl (by omega) ?_)
          | (at_builtin; refine wpList_appAt rfl (.tmp 50) (.tmp 56) 42 rfl info_red Try.underlying42 rfl (by decide) E8.out R8.out rfl rfl h1d (by omega) (by rw [World.size_alloc]; omega) ?_; intro v9 w9 ho9 hg9 hb9; have B9 := Lib.hid ((B8.out.alloc s8 (.cells #[] TRD)).grown hg9 (by rw [World.size_alloc]; omega) (fun y hy => Nat.le_trans s8 (E8.out.lt y hy).1)); have hob9 := Lib.hid (ob3.out.below B9.out); have lb9 := hob9.out.lt; have fb9 := hob9.out.blk.2.2; have c39 : w9.cell? ⟨b, 3, none⟩ = some V := hob9.out.blk.2.1 3; have HO8 := Lib.hid ho8; have HG9 := Lib.hid hg9; have HO9 := Lib.hid ho9; have HB9 := Lib.hid hb9; obtain ⟨a9, c9, hv9, _, _⟩ := (Rd.of_own ho9).form; subst hv9; clear ho8 hg9 ho9 hb9))
        go_ret
        have hgo : s.goes tn = ⟨s.most, N, s.last, s.l.drop k⟩ := by unfold Wl.goes; rw [HKE.out, HNE.out]
        have hou : s.out tn = s.l.take k := by unfold Wl.out; rw [HKE.out]
        have hww : w.heap.size ≤ W.heap.size := HK3.out.size
        have B89 : Below w8.heap.size w8 w9 := ((Below.refl w8.heap.size w8).alloc (Nat.le_refl _) (.cells #[] TRD)).grown HG9.out (by rw [World.size_alloc]; omega) (fun y hy => (E8.out.lt y hy).1)
        have hbb := HW.out.bb
        have hb0 := HW.out.ob.lt
        have HO9 := HO9.out
        rw [Nat.zero_add, List.nil_append] at HO9
        refine ⟨_, rfl, ?_, ?_⟩
        · rw [hou, List.length_take, Nat.min_eq_left (by omega)]
          have h8 := own_kept HO8.out ((kept_any (M := Only b) (Kept.of_below B89)).setO (i := 3) (v := .slice a9 (s.l.length - k) c9)) (fun y hy (hh : y = b) => by have := (HO8.out.lt y hy).1; omega)
          rw [Nat.zero_add, List.nil_append] at h8
          exact own_base h8 hww
        · exact wh_store HW.out (HK3.out.trans (kept_any (Kept.of_below B9.out))) (by rw [hgo]; exact hob9.out) (own_base HO9 (by omega)) (.inr fun x hx => Nat.le_trans (by omega) (HO9.lt x hx).1) (by rw [hgo]) (by rw [hgo]; exact (List.length_drop ..).symm)
end Go.Proofs.Ytlibnjhoggfhfaa
