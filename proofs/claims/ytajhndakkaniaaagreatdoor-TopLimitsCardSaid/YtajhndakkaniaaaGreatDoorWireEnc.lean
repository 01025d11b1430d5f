/- Frames written as bytes (wire, chapter 10, and the reference's). -/
import Derived.Test.YtajhndakkaniaaaGreatDoorWireCkA
import Derived.Test.YtajhndakkaniaaaGreatDoorWireCkB
namespace Go.Proofs.YtajhndakkaniaaaGreatDoor
open Go.RowKit

theorem own_set {w : World} {B : Nat} {e : TypeId} {g n cap : Nat} {xs : List Value} (h : w.ownsRow B e 1 (.slice (some ⟨g, 0, none⟩) n cap) n xs) (i : Nat) (u : Value) : (w.setCell ⟨g, i, none⟩ u).ownsRow B e 1 (.slice (some ⟨g, 0, none⟩) n cap) n (xs.set i u) := by
  refine ⟨by rw [List.length_set]; exact h.1, ?_⟩
  rcases h.2 with ⟨h2, _⟩ | ⟨g', cap', cur, hv, hb, hh, h3, h4, h5, h6⟩
  · cases h2
  · cases hv
    refine .inr ⟨g, cap, cur.setIfInBounds i u, rfl, hb, Ob.set hh i u, h3, h4, by rw [Array.size_setIfInBounds]; exact h5, ?_⟩
    rw [Array.toList_setIfInBounds, List.take_set, h6]
theorem own_lit {e : TypeId} (w : World) (cs : List Value) (base : Nat) (hb : base ≤ w.heap.size) (hm : cs.length ≤ maxLen) : (w.alloc (.cells cs.toArray e)).ownsRow base e 1 (.slice (some ⟨w.heap.size, 0, none⟩) cs.length cs.length) cs.length cs :=
  ⟨by simp, .inr ⟨w.heap.size, cs.length, cs.toArray, rfl, hb, heap_alloc_new w _, Nat.le_refl _, hm, by simp, by simp⟩⟩
theorem sum_take (l : List UInt8) (k : Nat) (h : k < l.length) : (((sumB (l.take k)).toNat : Int) + ((l[k]).toNat : Int)) % 256 = ((sumB (l.take (k + 1))).toNat : Int) := by
  have : sumB (l.take (k + 1)) = sumB (l.take k) + l[k] := by
    unfold sumB
    rw [List.take_succ_eq_append_getElem h, List.foldl_append]; rfl
  rw [this, UInt8.toNat_add]
  omega
def PutP (l : List UInt8) (n k B : Nat) (w : World) (e : Ending) (w' : World) : Prop := ∃ v', e = .returned v' ∧ w'.ownsRow B 5 1 v' (l ++ be n k).length (bcells (l ++ be n k)) ∧ Below B w w'
theorem putP {l : List UInt8} {n k B : Nat} {w : World} {e : Ending} {w' : World} (h : PutPost l n k B w e w') : PutP l n k B w e w' := by
  unfold PutP; rw [List.length_append, be_len]; exact h
theorem put_any' (l : List UInt8) (v : Value) (n : Int) (k B : Nat) (w : World) (hn : 0 ≤ n) (h : w.ownsRow B 5 1 v l.length (bcells l)) (hl : l.length ≤ 100) (hk : k ≤ 8) (hB : B ≤ w.heap.size) : Calls Tryz.prog 72 #[v, .int .u64 n, .int .i64 k] w (PutP l n.toNat k B w) := by
  obtain ⟨m, rfl⟩ := Int.eq_ofNat_of_zero_le hn
  exact (put_any l v m k B w h hl hk hB).mono fun _ _ h => putP h
theorem put_ref' (l : List UInt8) (v : Value) (n : Int) (k B : Nat) (w : World) (hn : 0 ≤ n) (h : w.ownsRow B 5 1 v l.length (bcells l)) (hl : l.length ≤ 100) (hk : k ≤ 8) (hB : B ≤ w.heap.size) : Calls Tryz.prog 35 #[v, .int .u64 n, .int .i64 k] w (PutP l n.toNat k B w) := by
  obtain ⟨m, rfl⟩ := Int.eq_ofNat_of_zero_le hn
  exact (put_ref l v m k B w h hl hk hB).mono fun _ _ h => putP h
theorem or4 : ∀ s d : Fin 8, bits .or .i64 ((s.val : Int) * 16) (d.val : Int) % 256 = ((s.val * 16 + d.val : Nat) : Int) := by decide +kernel
theorem or_hosts (s d : Int) (hs : 0 ≤ s ∧ s ≤ 7) (hd : 0 ≤ d ∧ d ≤ 7) : bits .or .i64 (s * 16) d % 256 = s * 16 + d := by
  obtain ⟨a, rfl⟩ := Int.eq_ofNat_of_zero_le hs.1
  obtain ⟨b, rfl⟩ := Int.eq_ofNat_of_zero_le hd.1
  have := or4 ⟨a, by omega⟩ ⟨b, by omega⟩
  simp only at this
  rw [this]; omega
theorem kept_since {n : Nat} {w w' : World} (h : Below n w w') : Kept (Since n) w w' := ⟨h.os, h.tape, h.output, h.size, fun b _ hn => h.block b (Nat.lt_of_not_le hn)⟩
def EncPost (f : Fr) (w : World) (e : Ending) (w' : World) : Prop :=
  (okF f ∧ (∃ v, e = .returned (.tuple #[v, .int .i64 0]) ∧ w'.ownsRow w.heap.size 5 1 v (encF f).length (bcells (encF f))) ∨ ¬ okF f ∧ e = .returned (.tuple #[.slice none 0 0, .int .i64 1])) ∧ Below w.heap.size w w'
/-- the first four bytes -/
def h4 (f : Fr) : List UInt8 := [by8 f.kind, by8 (f.src * 16 + f.dst), by8 f.prio, 0]
theorem h4_cells (f : Fr) (h : okF f) : [.int .u8 f.kind, .int .u8 (f.src * 16 + f.dst), .int .u8 f.prio, .int .u8 0] = bcells (h4 f) := by
  have h1 := by8_nat f.kind ⟨by have := h.kind; omega, by have := h.kind; omega⟩
  have h2 := by8_nat (f.src * 16 + f.dst) ⟨by have := h.src; have := h.dst; omega, by have := h.src; have := h.dst; omega⟩
  have h3 := by8_nat f.prio ⟨by have := h.prio; omega, by have := h.prio; omega⟩
  simp only [h4, bcells, List.map_cons, List.map_nil, h1, h2, h3]
  rfl
theorem hb_eq (f : Fr) : h4 f ++ be f.msg.toNat 8 ++ be f.off.toNat 4 ++ be f.total.toNat 4 ++ be f.len.toNat 2 ++ be f.num.toNat 4 = hb f := rfl
theorem hd_cells (f : Fr) : (bcells (hb f)).set 3 (.int .u8 (sumB (hb f)).toNat) = bcells (hd f) := by
  unfold hd bcells; rw [List.map_set]
theorem enc_cells (f : Fr) : bcells (hd f) ++ bcells f.data = bcells (encF f) := (bcells_app _ _).symm

set_option maxHeartbeats 4000000 in
theorem encode_any (f : Fr) (v : Value) (hm : 0 ≤ f.msg) (w : World) (hd : Rd w 1 v f.data.length (bcells f.data)) : Calls Tryz.prog 41 #[f.val v] w (EncPost f w) := by
  obtain ⟨v, cp, rfl, h1, h2⟩ := hd.form
  have HD := Lib.hid hd
  clear hd
  have OX := Lib.hid (Ob.new w #[.int .i64 f.kind, .int .i64 f.src, .int .i64 f.dst, .int .i64 f.prio, .int .u64 f.msg, .int .i64 f.off, .int .i64 f.len, .int .i64 f.total, .int .i64 f.num, .slice v f.data.length cp] 44)
  have HC := Lib.hid (check_any f v cp hm)
  by_cases hok : okF f
  · have HK := Lib.hid hok
    have := hok.kind; have := hok.src; have := hok.dst; have := hok.prio; have := hok.msg; have := hok.off; have := hok.total; have := hok.len; have := hok.num
    clear hok
    unfold Fr.val at *
    go_enter Tryz.func41, Tryz.ntmps41
    go_wp2_with fail
    refine (HC.out _).mono ?_
    rintro e w1 ⟨⟨_, rfl⟩ | ⟨hno, _⟩, hb1⟩
    rotate_left
    · exact absurd HK.out hno
    have OX1 := Lib.hid (OX.out.below hb1)
    have B1 := Lib.hid (((Below.refl w.heap.size w).alloc (Nat.le_refl _) (.cells #[.int .i64 f.kind, .int .i64 f.src, .int .i64 f.dst, .int .i64 f.prio, .int .u64 f.msg, .int .i64 f.off, .int .i64 f.len, .int .i64 f.total, .int .i64 f.num, .slice v f.data.length cp] 44)).trans (hb1.mono (by simp)))
    clear hb1
    obtain ⟨lx, cx, fx⟩ := OX1.out.blk
    have s1 := lx
    have HOR := Lib.hid (or_hosts f.src f.dst HK.out.src HK.out.dst)
    go_wp2_with fail
    rw [HOR.out]
    have OX2 := Lib.hid (OX1.out.alloc (.cells #[.int .u8 f.kind, .int .u8 (f.src * 16 + f.dst), .int .u8 f.prio, .int .u8 0] 5))
    have B2 := Lib.hid (B1.out.alloc (by omega) (.cells #[.int .u8 f.kind, .int .u8 (f.src * 16 + f.dst), .int .u8 f.prio, .int .u8 0] 5))
    have s2 : w1.heap.size < (w1.alloc (.cells #[.int .u8 f.kind, .int .u8 (f.src * 16 + f.dst), .int .u8 f.prio, .int .u8 0] 5)).heap.size := by simp
    have O2 : Hid ((w1.alloc (.cells #[.int .u8 f.kind, .int .u8 (f.src * 16 + f.dst), .int .u8 f.prio, .int .u8 0] 5)).ownsRow w1.heap.size 5 1 (.slice (some ⟨w1.heap.size, 0, none⟩) 4 4) (h4 f).length (bcells (h4 f))) := by
      rw [← h4_cells f HK.out]
      exact Lib.hid (own_lit w1 [.int .u8 f.kind, .int .u8 (f.src * 16 + f.dst), .int .u8 f.prio, .int .u8 0] w1.heap.size (Nat.le_refl _) (by show 4 ≤ maxLen; decide))
    clear HOR cx fx lx
    generalize hg : w1.alloc (.cells #[.int .u8 f.kind, .int .u8 (f.src * 16 + f.dst), .int .u8 f.prio, .int .u8 0] 5) = w2 at *
    clear hg
    refine (put_any' _ _ _ 8 w1.heap.size w2 (by omega) O2.out (by simp [h4]) (by decide) (by omega)).mono ?_
    rintro e w3 ⟨v3, rfl, ho3, hb3⟩
    have O3 := Lib.hid ho3
    have OX3 : Hid (Ob w3 w.heap.size _ _) := Lib.hid (below_heap hb3 s1 OX2.out)
    have B3 := Lib.hid (B2.out.trans (hb3.mono (by omega)))
    have s3 : w1.heap.size < w3.heap.size := by have := hb3.size; omega
    clear ho3 hb3 O2
    obtain ⟨lx, cx, fx⟩ := OX3.out.blk
    go_wp2_with fail
    clear cx fx lx
    refine (put_any' _ _ _ 4 w1.heap.size w3 (by omega) O3.out (by simp [h4, be_len]) (by decide) (by omega)).mono ?_
    rintro e w4 ⟨v4, rfl, ho4, hb4⟩
    have O4 := Lib.hid ho4
    have OX4 : Hid (Ob w4 w.heap.size _ _) := Lib.hid (below_heap hb4 s1 OX3.out)
    have B4 := Lib.hid (B3.out.trans (hb4.mono (by omega)))
    have s4 : w1.heap.size < w4.heap.size := by have := hb4.size; omega
    clear ho4 hb4 O3
    obtain ⟨lx, cx, fx⟩ := OX4.out.blk
    go_wp2_with fail
    clear cx fx lx
    refine (put_any' _ _ _ 4 w1.heap.size w4 (by omega) O4.out (by simp [h4, be_len]) (by decide) (by omega)).mono ?_
    rintro e w5 ⟨v5, rfl, ho5, hb5⟩
    have O5 := Lib.hid ho5
    have OX5 : Hid (Ob w5 w.heap.size _ _) := Lib.hid (below_heap hb5 s1 OX4.out)
    have B5 := Lib.hid (B4.out.trans (hb5.mono (by omega)))
    have s5 : w1.heap.size < w5.heap.size := by have := hb5.size; omega
    clear ho5 hb5 O4
    obtain ⟨lx, cx, fx⟩ := OX5.out.blk
    go_wp2_with fail
    clear cx fx lx
    refine (put_any' _ _ _ 2 w1.heap.size w5 (by omega) O5.out (by simp [h4, be_len]) (by decide) (by omega)).mono ?_
    rintro e w6 ⟨v6, rfl, ho6, hb6⟩
    have O6 := Lib.hid ho6
    have OX6 : Hid (Ob w6 w.heap.size _ _) := Lib.hid (below_heap hb6 s1 OX5.out)
    have B6 := Lib.hid (B5.out.trans (hb6.mono (by omega)))
    have s6 : w1.heap.size < w6.heap.size := by have := hb6.size; omega
    clear ho6 hb6 O5
    obtain ⟨lx, cx, fx⟩ := OX6.out.blk
    go_wp2_with fail
    clear cx fx lx
    refine (put_any' _ _ _ 4 w1.heap.size w6 (by omega) O6.out (by simp [h4, be_len]) (by decide) (by omega)).mono ?_
    rintro e w7 ⟨v7, rfl, ho7, hb7⟩
    have O7 := Lib.hid ho7
    have OX7 : Hid (Ob w7 w.heap.size _ _) := Lib.hid (below_heap hb7 s1 OX6.out)
    have B7 := Lib.hid (B6.out.trans (hb7.mono (by omega)))
    have s7 : w1.heap.size < w7.heap.size := by have := hb7.size; omega
    clear ho7 hb7 O6
    obtain ⟨lx, cx, fx⟩ := OX7.out.blk
    rw [hb_eq] at O7
    obtain ⟨g, cap, rfl, hg1, hg2, hg3, hg4, hc, hfz⟩ := own_some O7.out (by rw [hb_len]; decide)
    rw [hb_len f] at *
    have hbl := hb_len f
    have HC8 := Lib.hid hc
    have O8 := Lib.hid O7.out
    clear hc O7
    go_wp2_with fail
    go_loopw [6, 54] (fun s i wr => ∃ (k : Nat), s = .int .u8 (sumB ((hb f).take k)).toNat ∧ i = .int .i64 k ∧ k ≤ 26 ∧ w7 = wr) (fun _ i _ => 26 - (intOf i).toNat)
    case atStart => exact ⟨0, rfl, rfl, by omega, rfl⟩
    case round =>
      obtain ⟨k, rfl, rfl, hk, rfl⟩ := hrel
      by_cases hlt : k < 26
      · have c0 := HC8.out k (.int .u8 ((hb f)[k]'(by omega)).toNat) (by simp [bcells, hbl, hlt])
        have HS := Lib.hid (sum_take (hb f) k (by omega))
        go_wp2_with fail
        go_roundw
        case rel => exact ⟨k + 1, by rw [HS.out], by go_num, by omega, trivial⟩
        case measure => simp [intOf] <;> omega
      · obtain rfl : k = 26 := by omega
        have HT := Lib.hid (show (hb f).take 26 = hb f from List.take_of_length_le (by omega))
        obtain ⟨u3, hu3⟩ : ∃ u, (bcells (hb f))[3]? = some u := ⟨_, List.getElem?_eq_getElem (by rw [bcells_len, hbl]; decide)⟩
        have c3 := HC8.out 3 u3 hu3
        have f3 := hfz 3
        clear hu3
        have O9 : Hid ((w7.setCell ⟨g, 3, none⟩ (.int .u8 (sumB (hb f)).toNat)).ownsRow w1.heap.size 5 1 (.slice (some ⟨g, 0, none⟩) 26 cap) 26 (bcells (hd f))) := by
          have := own_set O8.out 3 (.int .u8 (sumB (hb f)).toNat)
          rw [hd_cells] at this
          exact Lib.hid this
        have B9 : Hid (Below w.heap.size w (w7.setCell ⟨g, 3, none⟩ (.int .u8 (sumB (hb f)).toNat))) := by
          have h9 := (Kept.refl (Only g) w7).setO (i := 3) (v := .int .u8 (sumB (hb f)).toNat)
          exact Lib.hid (B7.out.trans (h9.belowAt (by omega) (fun b hb => by have : b = g := hb; omega)))
        have OX9 : Hid (Ob (w7.setCell ⟨g, 3, none⟩ (.int .u8 (sumB (hb f)).toNat)) w.heap.size _ _) := Lib.hid (OX7.out.other _ _ (by show w.heap.size ≠ g; omega))
        have hdl : f.data.length ≤ 1500 := by
          have h1 := HK.out.data
          have h2 := HK.out.len
          split at h1 <;> omega
        have hs9 := B9.out.size
        have hs9' : w1.heap.size ≤ (w7.setCell ⟨g, 3, none⟩ (.int .u8 (sumB (hb f)).toNat)).heap.size := by rw [Go.Deep.nblk_setCell]; omega
        go_wp2_with (at_builtin; rw [HT.out]; refine wpList_appS rfl (.tmp 65) (.tmp 67) 33 rfl info_u8 Tryz.underlying33 rfl (by decide) O9.out (HD.out.below B9.out) rfl rfl (bcells_one _) (by omega) hs9' ?_; intro v' w' ho' hg')
        have B10 := Lib.hid (B9.out.trans ((grown_below O9.out hg' hs9').mono (by omega)))
        rw [enc_cells] at ho'
        have O10 := Lib.hid (ownsRow_mono ho' (Nat.le_of_lt s1))
        clear ho' hg'
        go_wp2_with fail
        refine done _ rfl (by simp [results, Tryz.results41, go_sem]) ⟨.inl ⟨HK.out, v', rfl, ?_⟩, B10.out⟩
        rw [enc_len]
        exact O10.out
  · have HK := Lib.hid hok
    clear hok
    unfold Fr.val at *
    go_enter Tryz.func41, Tryz.ntmps41
    go_wp2_with fail
    refine (HC.out _).mono ?_
    rintro e w1 ⟨⟨hno, _⟩ | ⟨_, rfl⟩, hb1⟩
    · exact absurd hno HK.out
    have B1 := Lib.hid (((Below.refl w.heap.size w).alloc (Nat.le_refl _) (.cells #[.int .i64 f.kind, .int .i64 f.src, .int .i64 f.dst, .int .i64 f.prio, .int .u64 f.msg, .int .i64 f.off, .int .i64 f.len, .int .i64 f.total, .int .i64 f.num, .slice v f.data.length cp] 44)).trans (hb1.mono (by simp)))
    clear hb1
    go_wp2_with fail
    refine done _ rfl (by simp [results, Tryz.results41, go_sem]) ⟨.inr ⟨HK.out, rfl⟩, B1.out⟩
theorem sum_ref (l : List UInt8) (v : Value) (w : World) (h : Rd w 1 v l.length (bcells l)) (hl : l.length = 26) (h3 : l.getD 3 0 = 0) : Calls Tryz.prog 36 #[v] w fun e w' => e = .returned (.int .u8 (sumB l).toNat) ∧ w = w' := by
  obtain ⟨b, o, cp, rfl, h1, h2, hb, hc⟩ := h.some (by omega) (by decide)
  have HC := Lib.hid hc
  have H3 := Lib.hid h3
  clear h hc h3
  go_enter Tryz.func36, Tryz.ntmps36
  go_wp2_with fail
  go_loopw [3, 4] (fun s i wr => ∃ (k : Nat), s = .int .u8 (sumB (l.take k)).toNat ∧ i = .int .i64 k ∧ k ≤ 26 ∧ w = wr) (fun _ i _ => 26 - (intOf i).toNat)
  case atStart => exact ⟨0, rfl, rfl, by omega, rfl⟩
  case round =>
    obtain ⟨k, rfl, rfl, hk, rfl⟩ := hrel
    by_cases hlt : k < 26
    · have c0 := HC.out k (.int .u8 (l[k]'(by omega)).toNat) (by simp [bcells, show k < l.length by omega])
      have HS := Lib.hid (sum_take l k (by omega))
      by_cases hk3 : k = 3
      · subst hk3
        have HZ : Hid ((sumB (l.take 3)).toNat = (sumB (l.take 4)).toNat) := by
          have h3 : (l[3]'(by omega)).toNat = 0 := by
            have := H3.out
            rw [List.getD_eq_getElem?_getD, List.getElem?_eq_getElem (by omega), Option.getD_some] at this
            rw [this]; rfl
          have h4 := HS.out
          rw [h3] at h4
          replace h4 : (((sumB (l.take 3)).toNat : Int) + ((0 : Nat) : Int)) % 256 = ((sumB (l.take 4)).toNat : Int) := h4
          have := (sumB (l.take 3)).toNat_lt
          exact Lib.hid (by omega)
        go_wp2_with fail
        go_roundw
        case rel => exact ⟨4, by rw [HZ.out], by go_num, by omega, trivial⟩
        case measure => simp [intOf] <;> omega
      · have hb3 : ((k : Int) == 3) = false := beq_eq_false_iff_ne.2 (by omega)
        have hb4 : ((k : Int) != 3) = true := by simp [bne, hb3]
        go_wp2_with fail
        go_roundw
        case rel => exact ⟨k + 1, by rw [HS.out], by go_num, by omega, trivial⟩
        case measure => simp [intOf] <;> omega
    · obtain rfl : k = 26 := by omega
      have HT := Lib.hid (show l.take 26 = l from List.take_of_length_le (by omega))
      go_wp2_with fail
      rw [HT.out]
      go_ret
      exact ⟨rfl, rfl⟩
set_option maxHeartbeats 4000000 in
set_option maxRecDepth 100000 in
theorem encode_ref (f : Fr) (v : Value) (hm : 0 ≤ f.msg) (w : World) (hd : Rd w 1 v f.data.length (bcells f.data)) : Calls Tryz.prog 13 #[f.val v] w (EncPost f w) := by
  obtain ⟨v, cp, rfl, h1, h2⟩ := hd.form
  have HD := Lib.hid hd
  clear hd
  have OX := Lib.hid (Ob.new w #[.int .i64 f.kind, .int .i64 f.src, .int .i64 f.dst, .int .i64 f.prio, .int .u64 f.msg, .int .i64 f.off, .int .i64 f.len, .int .i64 f.total, .int .i64 f.num, .slice v f.data.length cp] 44)
  have HC := Lib.hid (check_ref f v cp hm)
  by_cases hok : okF f
  · have HK := Lib.hid hok
    have := hok.kind; have := hok.src; have := hok.dst; have := hok.prio; have := hok.msg; have := hok.off; have := hok.total; have := hok.len; have := hok.num
    clear hok
    unfold Fr.val at *
    go_enter Tryz.func13, Tryz.ntmps13
    go_wp2_with fail
    refine (HC.out _).mono ?_
    rintro e w1 ⟨⟨_, rfl⟩ | ⟨hno, _⟩, hb1⟩
    rotate_left
    · exact absurd HK.out hno
    have OX1 := Lib.hid (OX.out.below hb1)
    have B1 := Lib.hid (((Below.refl w.heap.size w).alloc (Nat.le_refl _) (.cells #[.int .i64 f.kind, .int .i64 f.src, .int .i64 f.dst, .int .i64 f.prio, .int .u64 f.msg, .int .i64 f.off, .int .i64 f.len, .int .i64 f.total, .int .i64 f.num, .slice v f.data.length cp] 44)).trans (hb1.mono (by simp)))
    clear hb1
    obtain ⟨lx, cx, fx⟩ := OX1.out.blk
    have s1 := lx
    go_wp2_with fail
    have OX2 := Lib.hid (OX1.out.alloc (.cells #[.int .u8 f.kind, .int .u8 (f.src * 16 + f.dst), .int .u8 f.prio, .int .u8 0] 5))
    have B2 := Lib.hid (B1.out.alloc (by omega) (.cells #[.int .u8 f.kind, .int .u8 (f.src * 16 + f.dst), .int .u8 f.prio, .int .u8 0] 5))
    have s2 : w1.heap.size < (w1.alloc (.cells #[.int .u8 f.kind, .int .u8 (f.src * 16 + f.dst), .int .u8 f.prio, .int .u8 0] 5)).heap.size := by simp
    have O2 : Hid ((w1.alloc (.cells #[.int .u8 f.kind, .int .u8 (f.src * 16 + f.dst), .int .u8 f.prio, .int .u8 0] 5)).ownsRow w1.heap.size 5 1 (.slice (some ⟨w1.heap.size, 0, none⟩) 4 4) (h4 f).length (bcells (h4 f))) := by
      rw [← h4_cells f HK.out]
      exact Lib.hid (own_lit w1 [.int .u8 f.kind, .int .u8 (f.src * 16 + f.dst), .int .u8 f.prio, .int .u8 0] w1.heap.size (Nat.le_refl _) (by show 4 ≤ maxLen; decide))
    clear cx fx lx
    generalize hg : w1.alloc (.cells #[.int .u8 f.kind, .int .u8 (f.src * 16 + f.dst), .int .u8 f.prio, .int .u8 0] 5) = w2 at *
    clear hg
    obtain ⟨lx, cx, fx⟩ := OX2.out.blk
    have ns := not_since s1
    refine wp_run (M := (Since w1.heap.size)) (stages [([true, true, true, false, true, true, true, false, true, true, true, false, true, true, true, false, true, true, true, false, false], 3), ([false, false, false, false, false, false, false, false, false, false, false, false, false, false, false, false, false, false, false, false, false], 7), ([false, false, false, false, false, false, false, false, false, false, false, false, false, false, false, false, false, false, false, false, false], 11), ([false, false, false, false, false, false, false, false, false, false, false, false, false, false, false, false, false, false, false, false, false], 15), ([false, false, false, false, false, false, false, false, false, false, false, false, false, false, false, false, false, false, false, false, false], 19)] [false, false, false, false, false, false, false, false, false, false, false, false, false, false, false, false, false, false, false, false, true]) (by kernel_rfl) (by kernel_rfl) ?_
    refine run_stage rfl ?_
    simp only [pickAt]
    repeat (go_big_quiet_step (fail))
    refine wpQuiet_nil ?_
    refine run_want rfl ?_
    intro A hA
    go_simp
    refine (put_ref' _ _ _ 8 w1.heap.size w2.drew (by omega) O2.out (by simp [h4]) (by decide) (by show w1.heap.size ≤ w2.heap.size; omega)).mono ?_
    rintro e w3 ⟨v3, rfl, ho3, hb3⟩
    have O3 := Lib.hid ho3
    have OX3 : Hid (Ob w3 w.heap.size _ _) := Lib.hid (below_heap hb3 s1 OX2.out.drew)
    have B3 := Lib.hid (B2.out.drew.trans (hb3.mono (by omega)))
    have s3 : w1.heap.size < w3.heap.size := by have := hb3.size; (try change w2.heap.size ≤ _ at this); omega
    refine hA _ _ ((kept_since hb3)) ?_
    try simp only [Act.put, List.setIfInBounds_toArray, List.set_cons_zero, List.set_cons_succ]
    clear A hA
    clear ho3 hb3 O2
    refine run_stage rfl ?_
    simp only [pickAt]
    repeat (go_big_quiet_step (fail))
    refine wpQuiet_nil ?_
    refine run_want rfl ?_
    intro A hA
    go_simp
    refine (put_ref' _ _ _ 4 w1.heap.size w3 (by omega) O3.out (by simp [h4, be_len]) (by decide) (by omega)).mono ?_
    rintro e w4 ⟨v4, rfl, ho4, hb4⟩
    have O4 := Lib.hid ho4
    have OX4 : Hid (Ob w4 w.heap.size _ _) := Lib.hid (below_heap hb4 s1 OX3.out)
    have B4 := Lib.hid (B3.out.trans (hb4.mono (by omega)))
    have s4 : w1.heap.size < w4.heap.size := by have := hb4.size; omega
    refine hA _ _ ((kept_since hb4)) ?_
    try simp only [Act.put, List.setIfInBounds_toArray, List.set_cons_zero, List.set_cons_succ]
    clear A hA
    clear ho4 hb4 O3
    refine run_stage rfl ?_
    simp only [pickAt]
    repeat (go_big_quiet_step (fail))
    refine wpQuiet_nil ?_
    refine run_want rfl ?_
    intro A hA
    go_simp
    refine (put_ref' _ _ _ 4 w1.heap.size w4 (by omega) O4.out (by simp [h4, be_len]) (by decide) (by omega)).mono ?_
    rintro e w5 ⟨v5, rfl, ho5, hb5⟩
    have O5 := Lib.hid ho5
    have OX5 : Hid (Ob w5 w.heap.size _ _) := Lib.hid (below_heap hb5 s1 OX4.out)
    have B5 := Lib.hid (B4.out.trans (hb5.mono (by omega)))
    have s5 : w1.heap.size < w5.heap.size := by have := hb5.size; omega
    refine hA _ _ ((kept_since hb5)) ?_
    try simp only [Act.put, List.setIfInBounds_toArray, List.set_cons_zero, List.set_cons_succ]
    clear A hA
    clear ho5 hb5 O4
    refine run_stage rfl ?_
    simp only [pickAt]
    repeat (go_big_quiet_step (fail))
    refine wpQuiet_nil ?_
    refine run_want rfl ?_
    intro A hA
    go_simp
    refine (put_ref' _ _ _ 2 w1.heap.size w5 (by omega) O5.out (by simp [h4, be_len]) (by decide) (by omega)).mono ?_
    rintro e w6 ⟨v6, rfl, ho6, hb6⟩
    have O6 := Lib.hid ho6
    have OX6 : Hid (Ob w6 w.heap.size _ _) := Lib.hid (below_heap hb6 s1 OX5.out)
    have B6 := Lib.hid (B5.out.trans (hb6.mono (by omega)))
    have s6 : w1.heap.size < w6.heap.size := by have := hb6.size; omega
    refine hA _ _ ((kept_since hb6)) ?_
    try simp only [Act.put, List.setIfInBounds_toArray, List.set_cons_zero, List.set_cons_succ]
    clear A hA
    clear ho6 hb6 O5
    refine run_stage rfl ?_
    simp only [pickAt]
    repeat (go_big_quiet_step (fail))
    refine wpQuiet_nil ?_
    refine run_want rfl ?_
    intro A hA
    go_simp
    refine (put_ref' _ _ _ 4 w1.heap.size w6 (by omega) O6.out (by simp [h4, be_len]) (by decide) (by omega)).mono ?_
    rintro e w7 ⟨v7, rfl, ho7, hb7⟩
    have O7 := Lib.hid ho7
    have OX7 : Hid (Ob w7 w.heap.size _ _) := Lib.hid (below_heap hb7 s1 OX6.out)
    have B7 := Lib.hid (B6.out.trans (hb7.mono (by omega)))
    have s7 : w1.heap.size < w7.heap.size := by have := hb7.size; omega
    refine hA _ _ ((kept_since hb7)) ?_
    try simp only [Act.put, List.setIfInBounds_toArray, List.set_cons_zero, List.set_cons_succ]
    clear A hA
    clear ho7 hb7 O6
    refine run_last ?_
    simp only [pickAt]
    repeat (go_big_quiet_step (fail))
    refine wpQuiet_nil ?_
    clear cx fx lx
    obtain ⟨lx, cx, fx⟩ := OX7.out.blk
    rw [hb_eq] at O7
    obtain ⟨g, cap, rfl, hg1, hg2, hg3, hg4, hc, hfz⟩ := own_some O7.out (by rw [hb_len]; decide)
    rw [hb_len f] at *
    have hbl := hb_len f
    have HC8 := Lib.hid hc
    have O8 := Lib.hid O7.out
    have R8 := Lib.hid (Rd.of_own O7.out)
    clear hc O7
    obtain ⟨u3, hu3⟩ : ∃ u, (bcells (hb f))[3]? = some u := ⟨_, List.getElem?_eq_getElem (by rw [bcells_len, hbl]; decide)⟩
    have c3 := HC8.out 3 u3 hu3
    have f3 := hfz 3
    clear hu3
    have O9 : Hid ((w7.setCell ⟨g, 3, none⟩ (.int .u8 (sumB (hb f)).toNat)).ownsRow w1.heap.size 5 1 (.slice (some ⟨g, 0, none⟩) 26 cap) 26 (bcells (hd f))) := by
      have := own_set O8.out 3 (.int .u8 (sumB (hb f)).toNat)
      rw [hd_cells] at this
      exact Lib.hid this
    have B9 : Hid (Below w.heap.size w (w7.setCell ⟨g, 3, none⟩ (.int .u8 (sumB (hb f)).toNat))) := by
      have h9 := (Kept.refl (Only g) w7).setO (i := 3) (v := .int .u8 (sumB (hb f)).toNat)
      exact Lib.hid (B7.out.trans (h9.belowAt (by omega) (fun b hb => by have : b = g := hb; omega)))
    have OX9 : Hid (Ob (w7.setCell ⟨g, 3, none⟩ (.int .u8 (sumB (hb f)).toNat)) w.heap.size _ _) := Lib.hid (OX7.out.other _ _ (by show w.heap.size ≠ g; omega))
    have hdl : f.data.length ≤ 1500 := by
      have h1 := HK.out.data
      have h2 := HK.out.len
      split at h1 <;> omega
    have hs9 := B9.out.size
    have hs9' : w1.heap.size ≤ (w7.setCell ⟨g, 3, none⟩ (.int .u8 (sumB (hb f)).toNat)).heap.size := by rw [Go.Deep.nblk_setCell]; omega
    go_wp2_with (first | (go_at_call 36; refine (sum_ref (hb f) _ _ (by rw [hbl]; exact R8.out) hbl rfl).mono ?_; rintro e w8 ⟨rfl, rfl⟩) | (at_builtin; refine wpList_appS rfl (.tmp 49) (.tmp 51) 33 rfl info_u8 Tryz.underlying33 rfl (by decide) O9.out (HD.out.below B9.out) rfl rfl (bcells_one _) (by omega) hs9' ?_; intro v' w' ho' hg'))
    have B10 := Lib.hid (B9.out.trans ((grown_below O9.out hg' hs9').mono (by omega)))
    rw [enc_cells] at ho'
    have O10 := Lib.hid (ownsRow_mono ho' (Nat.le_of_lt s1))
    clear ho' hg'
    go_wp2_with fail
    refine done _ rfl (by simp [results, Tryz.results13, go_sem]) ⟨.inl ⟨HK.out, v', rfl, ?_⟩, B10.out⟩
    rw [enc_len]
    exact O10.out
  · have HK := Lib.hid hok
    clear hok
    unfold Fr.val at *
    go_enter Tryz.func13, Tryz.ntmps13
    go_wp2_with fail
    refine (HC.out _).mono ?_
    rintro e w1 ⟨⟨hno, _⟩ | ⟨_, rfl⟩, hb1⟩
    · exact absurd hno HK.out
    have B1 := Lib.hid (((Below.refl w.heap.size w).alloc (Nat.le_refl _) (.cells #[.int .i64 f.kind, .int .i64 f.src, .int .i64 f.dst, .int .i64 f.prio, .int .u64 f.msg, .int .i64 f.off, .int .i64 f.len, .int .i64 f.total, .int .i64 f.num, .slice v f.data.length cp] 44)).trans (hb1.mono (by simp)))
    clear hb1
    go_wp2_with fail
    refine done _ rfl (by simp [results, Tryz.results13, go_sem]) ⟨.inr ⟨HK.out, rfl⟩, B1.out⟩
end Go.Proofs.YtajhndakkaniaaaGreatDoor
