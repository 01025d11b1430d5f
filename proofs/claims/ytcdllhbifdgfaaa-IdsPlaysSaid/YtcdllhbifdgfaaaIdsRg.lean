/- The document's window of ids (chapter 9): Done. -/
import Derived.Test.YtcdllhbifdgfaaaIdsRf
namespace Go.Proofs.Ytcdllhbifdgfaaa
open Go.RowKit

theorem one_u64 (l : List Int) : ∀ u ∈ l.map (Value.int .u64), u.oneCell' = true := by
  intro u hu
  rw [List.mem_map] at hu
  obtain ⟨_, _, rfl⟩ := hu
  rfl
theorem rd_behindu {w : World} {l : List Int} {a : Option Addr} {c : Nat} (h : Rd w 1 (.slice a l.length c) l.length (l.map (Value.int .u64))) (k : Nat) (hk : k ≤ l.length) : Rd w 1 (.slice (slAddr a c k 1) (l.length - k) (c - k)) (l.length - k) ((l.drop k).map (Value.int .u64)) := by
  have h1 := h.sub k l.length hk (Nat.le_refl _)
  have e : ((l.map (Value.int .u64)).drop (k * 1)).take ((l.length - k) * 1) = (l.drop k).map (Value.int .u64) := by
    rw [Nat.mul_one, Nat.mul_one, ← List.map_drop]
    exact List.take_of_length_le (by rw [List.length_map, List.length_drop]; exact Nat.le_refl _)
  rw [e] at h1
  exact h1
theorem own_form {w : World} {B : Nat} {e : TypeId} {k : Nat} {v : Value} {n : Nat} {xs : List Value} (h : w.ownsRow B e k v n xs) : ∃ a n' c, v = .slice a n' c ∧ n' = n ∧ ∀ a' l c', v = .slice (some a') l c' → ∃ b o, a' = ⟨b, o, none⟩ := by
  rcases h.2 with ⟨rfl, hn⟩ | ⟨g, cap, cur, rfl, _⟩
  · exact ⟨none, 0, 0, rfl, hn.symm, fun a' l c' he => by cases he⟩
  · exact ⟨_, _, _, rfl, rfl, fun a' l c' he => by cases he; exact ⟨_, _, rfl⟩⟩
/-- the new list stored -/
theorem done_end {m B K n : Nat} {S v : Value} {s : Wd} {id : Int} {w1 w10 : World} {xs : List Value} {N : Nat} (h : Mw m B S s w1) (hK : s.pos id = K) (hb : Below w1.heap.size w1 w10) (ho : w10.ownsRow w1.heap.size TU 1 v N xs) (hn : n = N)
    (hfm : ∀ a' l c', v = .slice (some a') l c' → ∃ b o, a' = ⟨b, o, none⟩) (hx : xs = (s.l.take K ++ [id] ++ s.l.drop K).map (Value.int .u64)) (hm : m < w1.heap.size) :
    Mw m B v (s.ins id) (w10.setCell ⟨m, 2, none⟩ v) ∧ (Kept (Only m) w1 (w10.setCell ⟨m, 2, none⟩ v) ∧ ∀ y, v.ownBlock = some y → w1.heap.size ≤ y) := by
  subst hK hn
  have hlt := own_lt ho
  have hk : Kept (Only m) w1 (w10.setCell ⟨m, 2, none⟩ v) := ((Kept.of_below hb).mono (N := Only m) (fun _ _ h => False.elim h)).trans ((Kept.refl (Only m) w10).setO)
  have e : (s.ins id).l.map (Value.int .u64) = xs := hx.symm
  have hl : (s.ins id).l.length = n := by
    have h1 := ho.1
    rw [← e, List.length_map, Nat.mul_one] at h1
    exact h1
  refine ⟨⟨Ob.cast ((h.ob.below hb).set 2 v) rfl, ?_, fun y hy => ?_, h.mB, hfm⟩, hk, fun y hy => (hlt y hy).1⟩
  · rw [e, hl]
    refine (Rd.of_own ho).kept ((Kept.refl (Only m) w10).setO (i := 2) (v := v)) fun a l c he hh => ?_
    have h1 := (hlt a.block (by rw [he]; rfl)).1
    have h2 : a.block = m := hh
    omega
  · have h1 := hlt y hy
    rw [Go.Deep.nblk_setCell]
    exact ⟨by omega, by have := h.mB; omega, h1.2⟩
theorem done_fin {m B : Nat} {S v : Value} {s' : Wd} {w w1 w6 w2 : World} (h : Kept (Only m) w1 w6 ∧ ∀ y, v.ownBlock = some y → w1.heap.size ≤ y) (hp : MwPost m B v s' w6 w2) (hk : Kept (fun _ => False) w w1) : MwPost m B S s' w w2 := by
  obtain ⟨S', h1, h2, h3⟩ := hp
  have hkk : Kept (Only m) w w6 := (hk.mono (N := Only m) (fun _ _ h => False.elim h)).trans h.1
  refine ⟨S', h1, hkk.trans h2, fun x hx => .inr ?_⟩
  rcases h3 x hx with h4 | h4
  · exact Nat.le_trans hk.size (h.2 x h4)
  · exact Nat.le_trans hkk.size h4
set_option maxRecDepth 100000 in
set_option maxHeartbeats 4000000 in
theorem doner_any (m B : Nat) (S : Value) (s : Wd) (id : Int) (w : World) (h : Mw m B S s w) (ho : s.ok) (hid : 0 ≤ id) : Calls Try.prog 19 #[.pointer (some ⟨m, 0, none⟩), .int .u64 id] w fun e w' => e = .returned (.int .i64 (s.code id)) ∧ MwPost m B S (s.done id) w w' := by
  have HM := Lib.hid h
  have HO := Lib.hid ho
  clear h ho
  rcases code_cases s id with ⟨e1, e2, h0⟩ | ⟨e1, e2, h1⟩ | ⟨e1, e2, h1, h2, h3, h4⟩ | ⟨e1, e2, h1, h2, h3, h4⟩
  · rw [e1, e2]
    clear e1 e2
    rcases (by omega : id = 0 ∨ (id ≠ 0 ∧ 1152921504606846976 < id)) with h0 | ⟨h0, h1⟩
    · have hz : (id == 0) = true := beq_iff_eq.2 h0
      go_enter Try.func19, Try.ntmps19
      go_wp2_with fail
      go_ret
      exact ⟨rfl, MwPost.same HM.out (Kept.refl _ _)⟩
    · have hz : (id == 0) = false := beq_eq_false_iff_ne.2 h0
      have hb : decide (1152921504606846976 < id) = true := decide_eq_true h1
      go_enter Try.func19, Try.ntmps19
      go_wp2_with fail
      go_ret
      exact ⟨rfl, MwPost.same HM.out (Kept.refl _ _)⟩
  · by_cases hz0 : id = 0 ∨ 1152921504606846976 < id
    · have : s.code id = 1 := if_pos hz0
      omega
    · have hz : (id == 0) = false := beq_eq_false_iff_ne.2 (by omega)
      have hb : decide (1152921504606846976 < id) = false := decide_eq_false (by omega)
      rw [e1, e2]
      clear e1 e2 hz0
      go_enter Try.func19, Try.ntmps19
      go_wp2_with fail
      refine (isr_any m B S s id _ HM.out hid).mono ?_
      rintro e w1 ⟨rfl, rfl⟩
      rw [h1]
      go_wp2_with fail
      go_ret
      exact ⟨rfl, MwPost.same HM.out (Kept.refl _ _)⟩
  · have hi : s.is id = false := by
      have hh : ¬ s.is id = true := fun hh => by
        unfold Wd.code at e1
        rw [if_neg (by omega), if_pos hh] at e1
        omega
      simpa using hh
    have hr : s.room id = false := by
      unfold Wd.room
      rw [hi, beq_eq_false_iff_ne.2 h2, decide_eq_false (by omega)]; rfl
    have hz : (id == 0) = false := beq_eq_false_iff_ne.2 h3
    have hb : decide (1152921504606846976 < id) = false := decide_eq_false (by omega)
    rw [e1, e2]
    clear e1 e2 h1 h2
    go_enter Try.func19, Try.ntmps19
    go_wp2_with fail
    refine (isr_any m B S s id _ HM.out hid).mono ?_
    rintro e w1 ⟨rfl, rfl⟩
    rw [hi]
    go_wp2_with fail
    refine (room_any m B S s id _ HM.out hid).mono ?_
    rintro e w1 ⟨rfl, q, rfl⟩
    rw [hr]
    go_wp2_with fail
    go_ret
    exact ⟨rfl, MwPost.same HM.out (Kept.dn _ _ _)⟩
  · have hn : ¬ s.has id := fun hh => by have := (is_iff s id).2 ⟨h1, hh⟩; rw [h3] at this; cases this
    have hr : s.room id = true := by
      unfold Wd.room
      rw [h3]
      rcases h4 with h4 | h4
      · rw [decide_eq_true h4]; simp
      · rw [beq_iff_eq.2 h4]; rfl
    have hz : (id == 0) = false := beq_eq_false_iff_ne.2 h1
    have hb : decide (1152921504606846976 < id) = false := decide_eq_false (by omega)
    have HN := Lib.hid hn
    have HE2 := Lib.hid e2
    have hln : s.l.length ≤ 100000 := by have := HO.out.ln; have := HO.out.a1; omega
    have hm0 := HO.out.m0
    have hm1 := HO.out.m1
    have HIX : Hid (∀ x ∈ (s.ins id).l, 0 ≤ x ∧ x ≤ 1152921504606846976) := Lib.hid (fun x hx => by
      rcases ins_mem.1 hx with rfl | hx
      · omega
      · have := HO.out.hi x hx; omega)
    rw [e1]
    clear e1 e2 hn h4
    go_enter Try.func19, Try.ntmps19
    go_wp2_with fail
    refine (isr_any m B S s id _ HM.out hid).mono ?_
    rintro e w1 ⟨rfl, rfl⟩
    rw [h3]
    go_wp2_with fail
    refine (room_any m B S s id _ HM.out hid).mono ?_
    rintro e w1 ⟨rfl, q, rfl⟩
    rw [hr]
    have HM1 := Lib.hid (HM.out.keptF (Kept.dn _ _ q))
    have HK1 := Lib.hid (Kept.dn (fun _ => False) w q)
    generalize w.drewN q = w1 at *
    obtain ⟨a, c, hv, hlc, hcm⟩ := HM1.out.rd.form
    have HV := Lib.hid hv
    have HRD := HM1.out.rd
    rw [hv] at HRD
    have HRD := Lib.hid HRD
    obtain ⟨lb, cb, fb⟩ := HM1.out.ob.blk
    have c2 : w1.cell? ⟨m, 2, none⟩ = some (.slice a s.l.length c) := by rw [cb 2, hv]; rfl
    clear cb hv
    go_upto_block 1 with fail
    go_cut [5] from 28 to 43 (fun s5 wx => s5 = .int .i64 (s.pos id : Nat) ∧ wx = w1)
    case first =>
      go_wp2_with fail
      go_loopw [5] (fun i wr => ∃ (k : Nat), i = .int .i64 k ∧ k ≤ s.l.length ∧ (∀ x ∈ s.l.drop k, id < x) ∧ w1 = wr) (fun i _ => (intOf i).toNat)
      case atStart => exact ⟨s.l.length, rfl, Nat.le_refl _, fun x hx => (by rw [List.drop_length] at hx; cases hx), rfl⟩
      case round =>
        obtain ⟨k, rfl, hk, ha, rfl⟩ := hrel
        have HA := Lib.hid ha
        clear ha
        have hend : k = 0 ∨ ∃ k' y, k = k' + 1 ∧ ∃ h : k' < s.l.length, s.l[k'] = y := by
          rcases Nat.eq_zero_or_pos k with h | h
          · exact .inl h
          · exact .inr ⟨k - 1, s.l[k - 1]'(by omega), by omega, by omega, rfl⟩
        rcases hend with rfl | ⟨k, y, rfl, hk', hy⟩
        · have HCP := Lib.hid (countP_at (l := s.l) (id := id) (k := 0) (Nat.zero_le _) (fun x hx => by simp at hx) HA.out)
          go_wp2_with fail
          go_meet
          exact ⟨by unfold Wd.pos; rw [HCP.out], rfl⟩
        · have HRK := HRD.out.at k hk'
          have HD := Lib.hid (List.drop_eq_getElem_cons hk')
          have HTK := Lib.hid (List.take_succ_eq_append_getElem hk')
          have HY := Lib.hid hy
          have hne : y ≠ id := fun hh => HN.out (.inr (by rw [← hh, ← hy]; exact List.getElem_mem hk'))
          rw [hy] at HRK HD HTK
          obtain ⟨b, o, rfl, c3⟩ := HRK
          have hbl : b < w1.heap.size := (HM1.out.ap b (by rw [HV.out]; rfl)).2.2
          have hki : ((k : Int) + 1 - 1) = (k : Int) := by omega
          by_cases hyx : id < y
          · have hd : decide (id < y) = true := decide_eq_true hyx
            have HYX := Lib.hid hyx
            clear hy hyx
            go_wp2_with fail
            go_roundw
            case rel => exact ⟨k, rfl, by omega, fun x hx => by rw [HD.out] at hx; rcases List.mem_cons.1 hx with rfl | hx; exact HYX.out; exact HA.out x hx, trivial⟩
            case measure => simp [intOf]
          · have hd : decide (id < y) = false := decide_eq_false hyx
            have HUP := HO.out.up
            have HCP := Lib.hid (countP_at (l := s.l) (id := id) (k := k + 1) hk (fun x hx => by
              rw [HTK.out] at hx
              rcases List.mem_append.1 hx with hx | hx
              · have h7 : x < y := by
                  rw [← List.take_append_drop k s.l] at HUP
                  exact (List.pairwise_append.1 HUP).2.2 x hx y (by rw [HD.out]; exact List.mem_cons_self ..)
                omega
              · rw [List.mem_singleton] at hx; subst hx; omega) HA.out)
            clear hy hyx hne HUP
            go_wp2_with fail
            go_meet
            exact ⟨by unfold Wd.pos; rw [HCP.out], rfl⟩
    case rest =>
    obtain ⟨rfl, rfl⟩ := hcut
    have hK : s.pos id ≤ s.l.length := (pos_split HO.out.up id).1
    have HIL : Hid ((s.ins id).l.length = s.l.length + 1) := Lib.hid (ins_len hK id)
    have HMX : Hid (max (s.ins id).mark s.mark = (s.ins id).mark) := Lib.hid (by show max s.mark s.mark = s.mark; omega)
    have HO0 : Hid ((wc.alloc (.cells #[] TU)).ownsRow wc.heap.size TU 1 (.slice (some ⟨wc.heap.size, 0, none⟩) 0 0) 0 []) := Lib.hid (World.ownsRow_made (base := wc.heap.size) (e := TU) (size := 1) wc #[] 0 (by simp) (by decide) rfl)
    have B0 := Lib.hid ((Below.refl wc.heap.size wc).alloc (Nat.le_refl _) (.cells #[] TU))
    generalize hKq : s.pos id = K at *
    have HK := Lib.hid hKq
    clear hKq
    cases a with
    | none =>
      have hz0 : s.l.length = 0 ∧ c = 0 := by
        rcases HRD.out with ⟨h7, h8, _⟩ | ⟨_, _, h7, _⟩
        · injection h7 with _ _ h9; exact ⟨h8, h9⟩
        · cases h7
      obtain ⟨hl0, rfl⟩ := hz0
      obtain rfl : K = 0 := by omega
      rw [hl0] at c2
      have R1 : Hid (Rd (wc.alloc (.cells #[] TU)) 1 (.slice none 0 0) 0 ([] : List Value)) := Lib.hid (Rd.nil _ _)
      have R2 : Hid (Rd wc 1 (.slice none 0 0) 0 ([] : List Value)) := Lib.hid (Rd.nil _ _)
      go_wp2_with (first
        | (at_builtin; refine wpList_appAt rfl (.tmp 44) (.tmp 50) 42 rfl info_u64 Try.underlying42 rfl (by decide) HO0.out R1.out rfl rfl (fun u hu => (by cases hu)) (by omega) (by simp) ?_; intro v8 w8 ho8 hg8 hb8; have B8 := Lib.hid (B0.out.grown hg8 (by simp) (fun y hy => (HO0.out.lt y hy).1)); have s8 := B8.out.size)
        | (at_builtin; refine wpList_appAt rfl (.tmp 51) (.tmp 53) 42 rfl info_u64 Try.underlying42 rfl (by decide) (own_kept ho8 ((Kept.refl (fun _ => False) w8).alloc (.cells #[.int .u64 id] TU)) (fun _ _ hh => hh)) (Rd.one (k := 1) w8 #[.int .u64 id] TU rfl) rfl rfl (fun u hu => by simp at hu; subst hu; rfl) (by omega) (by rw [World.size_alloc]; omega) ?_; intro v9 w9 ho9 hg9 hb9; have B9 := Lib.hid ((B8.out.alloc s8 (.cells #[.int .u64 id] TU)).grown hg9 (by rw [World.size_alloc]; omega) (fun y hy => (own_lt ho8 y hy).1)); have s9 := B9.out.size; have lb9 := (HM1.out.ob.below B9.out).lt; have c29 : w9.cell? ⟨m, 2, none⟩ = some (.slice none 0 0) := (B9.out.cell (p := ⟨m, 2, none⟩) HM1.out.ob.lt).trans c2; have R29 := Lib.hid (R2.out.below B9.out))
        | (at_builtin; refine wpList_appAt rfl (.tmp 56) (.tmp 62) 42 rfl info_u64 Try.underlying42 rfl (by decide) ho9 R29.out rfl rfl (fun u hu => (by cases hu)) (by omega) (by omega) ?_; intro v10 w10 ho10 hg10 hb10; have B10 := Lib.hid (B9.out.grown hg10 (by omega) (fun y hy => (own_lt ho9 y hy).1)); obtain ⟨a10, n10, c10, rfl, hn10, hfm⟩ := own_form ho10; have HN10 := Lib.hid hn10; clear hn10; have hob10 := HM1.out.ob.below B10.out; have lb10 := hob10.lt; have fb10 := hob10.blk.2.2; have c10 := hob10.blk.2.1 2))
      have HP := Lib.hid (done_end (K := 0) HM1.out HK.out B10.out ho10 HN10.out hfm (by simp [show s.l = [] from List.eq_nil_of_length_eq_zero hl0]) HM1.out.ob.lt)
      refine (goesr_any m B _ (s.ins id) _ HP.out.1 ⟨by show 0 ≤ s.mark; omega, by show s.mark ≤ _; omega⟩ HIX.out (by rw [HIL.out]; omega)).mono ?_
      rintro e w11 ⟨rfl, hp11⟩
      have HF := Lib.hid (done_fin (S := S) HP.out.2 hp11 HK1.out)
      clear hp11
      go_wp2_with fail
      go_ret
      refine ⟨rfl, ?_⟩
      rw [HE2.out]
      unfold Wd.goes
      rw [HMX.out]
      exact HF.out
    | some a0 =>
      obtain ⟨b, o, rfl⟩ := HM1.out.fm _ _ _ HV.out
      rcases (by omega : c = K ∨ c ≠ K) with hcn | hcn
      · subst hcn
        have R1 : Hid (Rd (wc.alloc (.cells #[] TU)) 1 (.slice (some ⟨b, o, none⟩) c c) c ((s.l.take c).map (Value.int .u64))) := Lib.hid ((rd_tok HRD.out c hK).alloc (.cells #[] TU))
        have R2 : Hid (Rd wc 1 (.slice (some ⟨b, o, none⟩) 0 0) 0 ([] : List Value)) := Lib.hid (by have h9 := rd_behindu HRD.out c hK; rw [show s.l.length - c = 0 by omega, List.drop_of_length_le (by omega)] at h9; simpa [slAddr] using h9)
        go_wp2_with (first
          | (at_builtin; refine wpList_appAt rfl (.tmp 44) (.tmp 50) 42 rfl info_u64 Try.underlying42 rfl (by decide) HO0.out R1.out rfl rfl (one_u64 _) (by omega) (by simp) ?_; intro v8 w8 ho8 hg8 hb8; have B8 := Lib.hid (B0.out.grown hg8 (by simp) (fun y hy => (HO0.out.lt y hy).1)); have s8 := B8.out.size)
          | (at_builtin; refine wpList_appAt rfl (.tmp 51) (.tmp 53) 42 rfl info_u64 Try.underlying42 rfl (by decide) (own_kept ho8 ((Kept.refl (fun _ => False) w8).alloc (.cells #[.int .u64 id] TU)) (fun _ _ hh => hh)) (Rd.one (k := 1) w8 #[.int .u64 id] TU rfl) rfl rfl (fun u hu => by simp at hu; subst hu; rfl) (by omega) (by rw [World.size_alloc]; omega) ?_; intro v9 w9 ho9 hg9 hb9; have B9 := Lib.hid ((B8.out.alloc s8 (.cells #[.int .u64 id] TU)).grown hg9 (by rw [World.size_alloc]; omega) (fun y hy => (own_lt ho8 y hy).1)); have s9 := B9.out.size; have lb9 := (HM1.out.ob.below B9.out).lt; have c29 : w9.cell? ⟨m, 2, none⟩ = some (.slice (some ⟨b, o, none⟩) s.l.length c) := (B9.out.cell (p := ⟨m, 2, none⟩) HM1.out.ob.lt).trans c2; have R29 := Lib.hid (R2.out.below B9.out))
          | (at_builtin; refine wpList_appAt rfl (.tmp 56) (.tmp 62) 42 rfl info_u64 Try.underlying42 rfl (by decide) ho9 R29.out rfl rfl (fun u hu => (by cases hu)) (by omega) (by omega) ?_; intro v10 w10 ho10 hg10 hb10; have B10 := Lib.hid (B9.out.grown hg10 (by omega) (fun y hy => (own_lt ho9 y hy).1)); obtain ⟨a10, n10, c10, rfl, hn10, hfm⟩ := own_form ho10; have HN10 := Lib.hid hn10; clear hn10; have hob10 := HM1.out.ob.below B10.out; have lb10 := hob10.lt; have fb10 := hob10.blk.2.2; have c10 := hob10.blk.2.1 2))
        have HP := Lib.hid (done_end (K := c) HM1.out HK.out B10.out ho10 HN10.out hfm (by rw [List.drop_of_length_le (show s.l.length ≤ c by omega)]; simp) HM1.out.ob.lt)
        refine (goesr_any m B _ (s.ins id) _ HP.out.1 ⟨by show 0 ≤ s.mark; omega, by show s.mark ≤ _; omega⟩ HIX.out (by rw [HIL.out]; omega)).mono ?_
        rintro e w11 ⟨rfl, hp11⟩
        have HF := Lib.hid (done_fin (S := S) HP.out.2 hp11 HK1.out)
        clear hp11
        go_wp2_with fail
        go_ret
        refine ⟨rfl, ?_⟩
        rw [HE2.out]
        unfold Wd.goes
        rw [HMX.out]
        exact HF.out
      · have R1 : Hid (Rd (wc.alloc (.cells #[] TU)) 1 (.slice (some ⟨b, o, none⟩) K c) K ((s.l.take K).map (Value.int .u64))) := Lib.hid ((rd_tok HRD.out K hK).alloc (.cells #[] TU))
        have R2 : Hid (Rd wc 1 (.slice (some ⟨b, o + K, none⟩) (s.l.length - K) (c - K)) (s.l.length - K) ((s.l.drop K).map (Value.int .u64))) := Lib.hid (by have h9 := rd_behindu HRD.out K hK; simpa [slAddr, hcn, addr_add] using h9)
        go_wp2_with (first
          | (at_builtin; refine wpList_appAt rfl (.tmp 44) (.tmp 50) 42 rfl info_u64 Try.underlying42 rfl (by decide) HO0.out R1.out rfl rfl (one_u64 _) (by omega) (by simp) ?_; intro v8 w8 ho8 hg8 hb8; have B8 := Lib.hid (B0.out.grown hg8 (by simp) (fun y hy => (HO0.out.lt y hy).1)); have s8 := B8.out.size)
          | (at_builtin; refine wpList_appAt rfl (.tmp 51) (.tmp 53) 42 rfl info_u64 Try.underlying42 rfl (by decide) (own_kept ho8 ((Kept.refl (fun _ => False) w8).alloc (.cells #[.int .u64 id] TU)) (fun _ _ hh => hh)) (Rd.one (k := 1) w8 #[.int .u64 id] TU rfl) rfl rfl (fun u hu => by simp at hu; subst hu; rfl) (by omega) (by rw [World.size_alloc]; omega) ?_; intro v9 w9 ho9 hg9 hb9; have B9 := Lib.hid ((B8.out.alloc s8 (.cells #[.int .u64 id] TU)).grown hg9 (by rw [World.size_alloc]; omega) (fun y hy => (own_lt ho8 y hy).1)); have s9 := B9.out.size; have lb9 := (HM1.out.ob.below B9.out).lt; have c29 : w9.cell? ⟨m, 2, none⟩ = some (.slice (some ⟨b, o, none⟩) s.l.length c) := (B9.out.cell (p := ⟨m, 2, none⟩) HM1.out.ob.lt).trans c2; have R29 := Lib.hid (R2.out.below B9.out))
          | (at_builtin; refine wpList_appAt rfl (.tmp 56) (.tmp 62) 42 rfl info_u64 Try.underlying42 rfl (by decide) ho9 R29.out rfl rfl (one_u64 _) (by omega) (by omega) ?_; intro v10 w10 ho10 hg10 hb10; have B10 := Lib.hid (B9.out.grown hg10 (by omega) (fun y hy => (own_lt ho9 y hy).1)); obtain ⟨a10, n10, c10, rfl, hn10, hfm⟩ := own_form ho10; have HN10 := Lib.hid hn10; clear hn10; have hob10 := HM1.out.ob.below B10.out; have lb10 := hob10.lt; have fb10 := hob10.blk.2.2; have c10 := hob10.blk.2.1 2))
        have HP := Lib.hid (done_end (K := K) HM1.out HK.out B10.out ho10 HN10.out hfm (by simp) HM1.out.ob.lt)
        refine (goesr_any m B _ (s.ins id) _ HP.out.1 ⟨by show 0 ≤ s.mark; omega, by show s.mark ≤ _; omega⟩ HIX.out (by rw [HIL.out]; omega)).mono ?_
        rintro e w11 ⟨rfl, hp11⟩
        have HF := Lib.hid (done_fin (S := S) HP.out.2 hp11 HK1.out)
        clear hp11
        go_wp2_with fail
        go_ret
        refine ⟨rfl, ?_⟩
        rw [HE2.out]
        unfold Wd.goes
        rw [HMX.out]
        exact HF.out
end Go.Proofs.Ytcdllhbifdgfaaa
