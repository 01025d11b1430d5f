/- The document's port (chapter 13): what it is in memory; Used. -/
import Derived.Test.YtoihhidoafgoaaaMD
namespace Go.Proofs.Ytoihhidoafgoaaa
open Go.RowKit

abbrev TM : TypeId := 129
abbrev TX : TypeId := 99
structure Mp where
  room : Int
  most : Int
  trim : Bool
  L : Nat → List It
  C : List It
  now : Int
  last : Int
  ever : Bool
def mcells (U : Nat → Value) (uc : Value) (t : Mp) : Array Value := #[.int .i64 t.room, .int .i64 t.most, .bool t.trim, U 0, U 1, U 2, U 3, U 4, U 5, U 6, U 7, uc, .int .i64 t.now, .int .i64 t.last, .bool t.ever]
theorem m_get (U : Nat → Value) (uc : Value) (t : Mp) (p : Nat) (h : p < 8) : (mcells U uc t)[3 + p]? = some (U p) := by
  rcases eight h with rfl | rfl | rfl | rfl | rfl | rfl | rfl | rfl <;> rfl
theorem m_set (U : Nat → Value) (uc : Value) (t : Mp) (p : Nat) (h : p < 8) (x : Value) : (mcells U uc t).setIfInBounds (3 + p) x = mcells (upd U p x) uc t := by
  rcases eight h with rfl | rfl | rfl | rfl | rfl | rfl | rfl | rfl <;> rfl
/-- a row of the document's items, which nobody writes -/
structure Rt (w : World) (v : Value) (l : List It) : Prop where
  rd : Rd w 11 v l.length (l.flatMap It.row)
  ty : ∀ a n c, v = .slice (some a) n c → Ty w a.block TX
structure Mo (m : Nat) (U : Nat → Value) (uc : Value) (t : Mp) (w : World) : Prop where
  ob : Ob w m (mcells U uc t) TM
  lines : ∀ i, i < 8 → Rt w (U i) (t.L i)
  cr : Rt w uc t.C
theorem Ty.kept {M : Nat → Prop} {w w' : World} {g : Nat} {T : TypeId} (h : Ty w g T) (hk : Kept M w w') (hM : ¬ M g) : Ty w' g T := by
  obtain ⟨cs, h⟩ := h
  exact ⟨cs, hk.heap h hM⟩
section
variable {M : Nat → Prop} {w w' : World} {m : Nat} {U : Nat → Value} {uc : Value} {t : Mp}
theorem Rt.kept {v : Value} {l : List It} (h : Rt w v l) (hk : Kept M w w') (hT : ∀ g, M g → g < w.heap.size → ∃ T, Ty w g T ∧ T ≠ TX) : Rt w' v l := by
  have key : ∀ a n c, v = .slice (some a) n c → ¬ M a.block := fun a n c hv hm => by
    have h1 := h.ty a n c hv
    obtain ⟨cs, h2⟩ := h1
    obtain ⟨T, h3, h4⟩ := hT _ hm (heap_lt h2)
    exact h4 (h3.one ⟨cs, h2⟩)
  exact ⟨h.rd.kept hk key, fun a n c hv => (h.ty a n c hv).kept hk (key a n c hv)⟩
theorem Mo.kept (h : Mo m U uc t w) (hk : Kept M w w') (hm : ¬ M m) (hT : ∀ g, M g → g < w.heap.size → ∃ T, Ty w g T ∧ T ≠ TX) : Mo m U uc t w' :=
  ⟨h.ob.kept hk hm, fun i hi => (h.lines i hi).kept hk hT, h.cr.kept hk hT⟩
theorem Mo.keptF (h : Mo m U uc t w) (hk : Kept (fun _ => False) w w') : Mo m U uc t w' := h.kept hk (fun hh => hh) (fun _ hh => hh.elim)
theorem Mo.below (h : Mo m U uc t w) (hk : Below w.heap.size w w') : Mo m U uc t w' := h.keptF (Kept.of_below hk)
theorem Mo.row (h : Mo m U uc t w) (hk : Kept (Only m) w w') {v : Value} {l : List It} (hr : Rt w v l) : Rt w' v l :=
  hr.kept hk fun g hg _ => ⟨TM, by rw [show g = m from hg]; exact h.ob.ty, by decide⟩
end
def MoPost (m : Nat) (t' : Mp) (w w' : World) : Prop := ∃ U' uc', Mo m U' uc' t' w' ∧ Kept (Only m) w w'
def bsum (l : List It) : Int := (l.map It.bytes).sum
def msum (L : Nat → List It) : Nat → Int
  | 0 => 0
  | k + 1 => msum L k + bsum (L k)
structure It.ok2 (x : It) : Prop where
  dn : x.dn ≤ 1073741824
  len : 0 ≤ x.len ∧ x.len ≤ 1000000
theorem It.ok2.b {x : It} (h : x.ok2) : 26 ≤ x.bytes ∧ x.bytes ≤ 1000026 := by
  unfold It.bytes
  have := h.len
  split <;> omega
theorem It.ok2.sz {x : It} (h : x.ok2) : x.sz = x.bytes := by
  have := h.b
  unfold It.sz clampI
  split
  · omega
  · split <;> omega
theorem bsum_b : ∀ (l : List It), (∀ x ∈ l, x.ok2) → 0 ≤ bsum l ∧ bsum l ≤ l.length * 1000026
  | [], _ => by simp [bsum]
  | x :: l, h => by
    have h1 := bsum_b l fun y hy => h y (List.mem_cons_of_mem _ hy)
    have h2 := (h x List.mem_cons_self).b
    have : bsum (x :: l) = x.bytes + bsum l := by simp [bsum]
    rw [this, List.length_cons]
    push_cast
    omega
def Mp.has (t : Mp) (x : It) : Prop := x ∈ t.C ∨ ∃ i, i < 8 ∧ x ∈ t.L i
structure Mp.ok (N : Nat) (t : Mp) : Prop where
  items : ∀ x, t.has x → x.ok2
  len : ∀ i, i < 8 → (t.L i).length ≤ N
  clen : t.C.length ≤ N
theorem msum_b {N : Nat} {t : Mp} (h : t.ok N) : ∀ k, k ≤ 8 → 0 ≤ msum t.L k ∧ msum t.L k ≤ k * (N * 1000026)
  | 0, _ => by simp [msum]
  | k + 1, hk => by
    have h1 := msum_b h k (by omega)
    have h2 := bsum_b (t.L k) fun x hx => h.items x (.inr ⟨k, by omega, hx⟩)
    have h3 := h.len k (by omega)
    rw [msum]
    push_cast
    have : ((t.L k).length : Int) * 1000026 ≤ (N : Int) * 1000026 := by omega
    constructor
    · omega
    · have : ((k : Int) + 1) * ((N : Int) * 1000026) = (k : Int) * ((N : Int) * 1000026) + (N : Int) * 1000026 := by rw [Int.add_mul, Int.one_mul]
      omega
theorem msize (x : It) (w : World) (hl : 0 ≤ x.len ∧ x.len ≤ 1000000) : Calls Try.prog 88 #[x.frv] w fun e w' => e = .returned (.int .i64 x.bytes) ∧ Below w.heap.size w w' := by
  obtain ⟨h1, h2⟩ := hl
  unfold It.frv
  by_cases hk : x.kind = 1
  · have HK := Lib.hid (show x.bytes = 26 + x.len by unfold It.bytes; rw [if_pos hk])
    have hb : (x.kind == 1) = true := beq_iff_eq.2 hk
    clear hk
    go_enter Try.func88, Try.ntmps88
    go_wp2_with fail
    go_ret
    exact ⟨by rw [HK.out]; rfl, (Below.refl _ _).alloc (Nat.le_refl _) _⟩
  · have HK := Lib.hid (show x.bytes = 26 by unfold It.bytes; rw [if_neg hk])
    have hb : (x.kind == 1) = false := beq_eq_false_iff_ne.2 hk
    clear hk
    go_enter Try.func88, Try.ntmps88
    go_wp2_with fail
    go_ret
    exact ⟨by rw [HK.out]; rfl, (Below.refl _ _).alloc (Nat.le_refl _) _⟩
end Go.Proofs.Ytoihhidoafgoaaa
/- The document's port (chapter 13): Used. -/
namespace Go.Proofs.Ytoihhidoafgoaaa
open Go.RowKit

theorem bsum_app (l m : List It) : bsum (l ++ m) = bsum l + bsum m := by simp [bsum]
theorem Rt.form {w : World} {v : Value} {l : List It} (h : Rt w v l) : ∃ a c, v = .slice a l.length c ∧ l.length ≤ c ∧ c ≤ 9223372036854775807 := h.rd.form
theorem Mo.line {m : Nat} {U : Nat → Value} {uc : Value} {t : Mp} {w : World} (h : Mo m U uc t w) {q : Nat} (hq : q < 8) : w.cell? ⟨m, 3 + q, none⟩ = some (U q) := by rw [(h.ob.blk).2.1, m_get _ _ _ _ hq]
set_option maxRecDepth 100000 in
set_option maxHeartbeats 4000000 in
theorem mused (m : Nat) (U : Nat → Value) (uc : Value) (t : Mp) (N : Nat) (w : World) (h : Mo m U uc t w) (ho : t.ok N) (hN : N ≤ 100000) : Calls Try.prog 87 #[.pointer (some ⟨m, 0, none⟩)] w fun e w' => e = .returned (.int .i64 (msum t.L 8)) ∧ Below w.heap.size w w' := by
  have HM := Lib.hid h
  have HO := Lib.hid ho
  have HS := Lib.hid (msum_b ho)
  clear h ho
  go_enter Try.func87, Try.ntmps87
  go_wp2_with fail
  go_loopw [3, 4, 5] (fun n k _ wr => ∃ K : Nat, K ≤ 8 ∧ k = .int .i64 K ∧ n = .int .i64 (msum t.L K) ∧ Below w.heap.size w wr) (fun _ k _ _ => 8 - (intOf k).toNat)
  case atStart => exact ⟨0, by omega, rfl, rfl, Below.refl _ _⟩
  case round =>
    obtain ⟨K, hK, rfl, rfl, hb⟩ := hrel
    have BK := Lib.hid hb
    clear hb
    rename World => wk
    by_cases h8 : K < 8
    · have M2 := Lib.hid (HM.out.below BK.out)
      have hll := HO.out.len K h8
      obtain ⟨a, c, hv, _, _⟩ := (M2.out.lines K h8).form
      have HV := Lib.hid hv
      have h1 := HS.out K hK
      have HSK : Hid (0 ≤ msum t.L K ∧ msum t.L K ≤ 8 * (100000 * 1000026)) := Lib.hid (by
        have h2 : (K : Int) * ((N : Int) * 1000026) ≤ 8 * (100000 * 1000026) := by
          have h3 : (N : Int) * 1000026 ≤ 100000 * 1000026 := by omega
          have h4 : (K : Int) * ((N : Int) * 1000026) ≤ 8 * ((N : Int) * 1000026) := Int.mul_le_mul_of_nonneg_right (by omega) (by omega)
          omega
        omega)
      clear hv h1
      go_wp2_with fail
      rw [decide_eq_true (show (K : Int) < 8 by omega)]
      go_loopw [3, 5] (fun n i wr => ∃ j : Nat, j ≤ (t.L K).length ∧ i = .int .i64 j ∧ n = .int .i64 (msum t.L K + bsum ((t.L K).take j)) ∧ Below wk.heap.size wk wr) (fun _ i _ => (t.L K).length - (intOf i).toNat)
      case atStart => exact ⟨0, by omega, rfl, by simp [bsum], Below.refl _ _⟩
      case round =>
        obtain ⟨j, hj, rfl, rfl, hb⟩ := hrel
        have BJ := Lib.hid hb
        clear hb
        rename World => wj
        have M3 := Lib.hid (M2.out.below BJ.out)
        have lm := M3.out.ob.lt
        have cl : wj.cell? ⟨m, 3 + K, none⟩ = some (.slice a (t.L K).length c) := by rw [M3.out.line h8, HV.out]
        by_cases hlt : j < (t.L K).length
        · have hrd := (M3.out.lines K h8).rd
          rw [HV.out] at hrd
          obtain ⟨g, o, hgo, hg, hc⟩ := hrd.row rowIt (by decide) j hlt
          cases hgo
          have hxo := HO.out.items _ (.inr ⟨K, h8, List.getElem_mem hlt⟩)
          have HT := Lib.hid (show bsum ((t.L K).take (j + 1)) = bsum ((t.L K).take j) + ((t.L K)[j]).bytes by rw [List.take_succ_eq_append_getElem hlt, bsum_app]; simp [bsum])
          have hb1 := bsum_b ((t.L K).take j) fun y hy => HO.out.items y (.inr ⟨K, h8, List.mem_of_mem_take hy⟩)
          have hb2 : bsum ((t.L K).take j) ≤ 100000 * 1000026 := by
            have := List.length_take_le j (t.L K)
            omega
          generalize (t.L K)[j] = x at hc hxo HT
          have c0 := hc 0 _ rfl
          have c1 := hc 1 _ rfl
          have c2 := hc 2 _ rfl
          have c3 := hc 3 _ rfl
          have c4 := hc 4 _ rfl
          have c5 := hc 5 _ rfl
          have c6 := hc 6 _ rfl
          have c7 := hc 7 _ rfl
          have c8 := hc 8 _ rfl
          have c9 := hc 9 _ rfl
          rw [Nat.add_zero] at c0
          have hxb := hxo.b
          have hms := msize x wj hxo.len
          unfold It.frv at hms
          have hk1 := HSK.out
          clear hc hrd
          go_wp2_with fail
          refine (hms).mono ?_
          rintro e w5 ⟨rfl, hb5⟩
          have B5 := Lib.hid (BJ.out.trans (hb5.mono BJ.out.size))
          clear hb5 hms
          go_wp2_with fail
          go_roundw
          case rel => exact ⟨j + 1, by omega, by go_num, by rw [HT.out]; go_num, B5.out⟩
          case measure => simp [intOf]; omega
        · obtain rfl : j = (t.L K).length := by omega
          have B6 := Lib.hid (BK.out.trans (BJ.out.mono BK.out.size))
          go_wp2_with fail
          go_roundw
          case rel => exact ⟨K + 1, by omega, by go_num, by rw [List.take_length, msum], B6.out⟩
          case measure => simp [intOf]; omega
    · obtain rfl : K = 8 := by omega
      go_wp2_with fail
      go_ret
      exact ⟨rfl, BK.out⟩
end Go.Proofs.Ytoihhidoafgoaaa
/- The document's port (chapter 13): push. -/
namespace Go.Proofs.Ytoihhidoafgoaaa
open Go.RowKit

theorem hd_op {P : Program} {M : Nat → Prop} {Q : Exit → Act → World → Prop} {l : List Oper} {n fuel : Nat} {listed : Array Bool} {a : Act} {W : World} {j : Nat} {o : Oper} (ho : l[j]? = some o) (hn : j < n)
    (h : goAt P M Q l.toArray o a W (fun a' w' => Heads P M Q l n fuel (listed.setIfInBounds j true) a' w')) : j < n ∧ wpOp P l.toArray (NoPanic Q) j (fun a' w' => Kept M W w' ∧ wpHead P .any l.toArray (NoPanic Q) (Kept M W) n (TailOk P Q l n) fuel (listed.setIfInBounds j true) a' w') a W := by
  have ho' : l.toArray[j]? = some o := by simpa using ho
  refine ⟨hn, ?_⟩
  unfold wpOp
  simp only [ho']
  unfold goAt at h
  by_cases hw : Region.wanted o (yielded l.toArray a.tmps) = true
  · rw [if_pos hw] at h ⊢
    exact .inl (h _ fun a' w' hk' hn => ⟨hk', wpHead_mono (fun x hx => hk'.trans hx) fuel _ a' w' hn⟩)
  · rw [if_neg hw] at h ⊢
    exact ⟨Kept.refl _ _, h⟩
/-- one of two that act -/
theorem hd_act2 {P : Program} {M : Nat → Prop} {Q : Exit → Act → World → Prop} {l : List Oper} {n fuel : Nat} {listed : Array Bool} {a : Act} {W : World} (i j : Nat) {o p : Oper} (ho : l[i]? = some o) (hp : l[j]? = some p)
    (hok : (Region.ready .any l.toArray listed == [i, j] && decide (0 < fuel) && decide (i < n) && decide (j < n)) = true) (h1 : goAt P M Q l.toArray o a W (fun a' w' => Heads P M Q l n (fuel - 1) (listed.setIfInBounds i true) a' w'))
    (h2 : goAt P M Q l.toArray p a W (fun a' w' => Heads P M Q l n (fuel - 1) (listed.setIfInBounds j true) a' w')) : Heads P M Q l n fuel listed a W := by
  simp only [Bool.and_eq_true, beq_iff_eq, decide_eq_true_eq] at hok
  obtain ⟨fuel, rfl⟩ : ∃ f, fuel = f + 1 := ⟨fuel - 1, by omega⟩
  refine ⟨by rw [hok.1.1.1]; simp, fun k hk => ?_⟩
  have hk' : k = i ∨ k = j := by rw [hok.1.1.1] at hk; simpa using hk
  rcases hk' with rfl | rfl
  · exact hd_op ho hok.1.2 h1
  · exact hd_op hp hok.2 h2
theorem info_x : (Try.prog.info? 99).map (fun i => (i.zero, i.size, i.bytes)) = some (some (.agg #[.int .i64 0, .int .i64 0, .int .i64 0, .int .i64 0, .int .u64 0, .int .i64 0, .int .i64 0, .int .i64 0, .int .i64 0, .slice none 0 0, .int .i64 0]), 11, 104) := by kernel_rfl
theorem own_tyA {w : World} {B : Nat} {e : TypeId} {k : Nat} {v : Value} {n : Nat} {xs : List Value} (h : w.ownsRow B e k v n xs) {a : Addr} {n' c : Nat} (hv : v = .slice (some a) n' c) : Ty w a.block e := by
  rcases h.2 with ⟨h1, _⟩ | ⟨g, cap, cur, hg, _, hh, _⟩
  · rw [hv] at h1; cases h1
  · rw [hv] at hg
    cases hg
    exact ⟨cur, hh⟩
theorem Mo.setLine {m : Nat} {U : Nat → Value} {uc : Value} {t : Mp} {w w' : World} (h : Mo m U uc t w) {q : Nat} (hq : q < 8) {B : Nat} {v' : Value} {l' : List It} (hk : Kept (Since w.heap.size) w w') (ho : w'.ownsRow B TX 11 v' l'.length (l'.flatMap It.row)) : Mo m (upd U q v') uc { t with L := upd t.L q l' } (w'.setCell ⟨m, 3 + q, none⟩ v') ∧ Kept (Only m) w (w'.setCell ⟨m, 3 + q, none⟩ v') := by
  have nm : ¬ Since w.heap.size m := not_since h.ob.lt
  have hs : ∀ g, Since w.heap.size g → g < w.heap.size → ∃ T, Ty w g T ∧ T ≠ TX := fun g h1 h2 => absurd h1 (Nat.not_le.2 h2)
  have h1 := h.kept hk nm hs
  have hkb : Kept (Only m) w' (w'.setCell ⟨m, 3 + q, none⟩ v') := (Kept.refl _ _).setO
  have hr : Rt w' v' l' := ⟨Rd.of_own ho, fun a n c hv => own_tyA ho hv⟩
  refine ⟨⟨?_, fun i hi => ?_, h1.row hkb h1.cr⟩, ?_⟩
  · exact Ob.cast (h1.ob.set (3 + q) v') (m_set U uc t q hq v')
  · by_cases hiq : i = q
    · subst hiq
      rw [upd_same]
      show Rt _ v' (upd t.L i l' i)
      rw [upd_same]
      exact h1.row hkb hr
    · rw [upd_other _ _ hiq]
      show Rt _ (U i) (upd t.L q l' i)
      rw [upd_other _ _ hiq]
      exact h1.row hkb (h1.lines i hi)
  · exact (hk.mono fun b hb hh => absurd hh (Nat.not_le.2 hb)).trans hkb
set_option maxRecDepth 100000 in
set_option maxHeartbeats 4000000 in
theorem mpush_no (m : Nat) (U : Nat → Value) (uc : Value) (t : Mp) (N : Nat) (q : Nat) (x : It) (w : World) (h : Mo m U uc t w) (ho : t.ok N) (hN : N ≤ 100000) (hx : x.ok2) (hr : t.room < msum t.L 8 + x.bytes) : Calls Try.prog 84 #[.pointer (some ⟨m, 0, none⟩), .int .i64 q, x.val] w fun e w' => e = .returned (.bool false) ∧ Below w.heap.size w w' := by
  unfold It.val
  have HM := Lib.hid h
  have HO := Lib.hid ho
  have HXO := Lib.hid hx
  clear h ho hx
  go_enter Try.func84, Try.ntmps84
  go_upto_region 1 with fail
  have OX := Lib.hid (Ob.new w #[.int .i64 x.kind, .int .i64 x.src, .int .i64 x.dst, .int .i64 x.prio, .int .u64 x.msg, .int .i64 x.off, .int .i64 x.len, .int .i64 x.total, .int .i64 x.num, .slice x.da x.dn x.dc, .int .i64 x.path] TX)
  have HB := Lib.hid ((Below.refl w.heap.size w).alloc (Nat.le_refl _) (.cells #[.int .i64 x.kind, .int .i64 x.src, .int .i64 x.dst, .int .i64 x.prio, .int .u64 x.msg, .int .i64 x.off, .int .i64 x.len, .int .i64 x.total, .int .i64 x.num, .slice x.da x.dn x.dc, .int .i64 x.path] TX))
  have M1 := Lib.hid (HM.out.below HB.out)
  generalize w.alloc (.cells #[.int .i64 x.kind, .int .i64 x.src, .int .i64 x.dst, .int .i64 x.prio, .int .u64 x.msg, .int .i64 x.off, .int .i64 x.len, .int .i64 x.total, .int .i64 x.num, .slice x.da x.dn x.dc, .int .i64 x.path] TX) = w1 at *
  obtain ⟨X, HX⟩ : ∃ X, Hid (w.heap.size = X) := ⟨_, Lib.hid rfl⟩
  rw [HX.out] at OX ⊢
  obtain ⟨lx, cx, fx⟩ := OX.out.blk
  have cx0 : w1.cell? ⟨X, 0, none⟩ = some (.int .i64 x.kind) := cx 0
  have cx1 : w1.cell? ⟨X, 1, none⟩ = some (.int .i64 x.src) := cx 1
  have cx2 : w1.cell? ⟨X, 2, none⟩ = some (.int .i64 x.dst) := cx 2
  have cx3 : w1.cell? ⟨X, 3, none⟩ = some (.int .i64 x.prio) := cx 3
  have cx4 : w1.cell? ⟨X, 4, none⟩ = some (.int .u64 x.msg) := cx 4
  have cx5 : w1.cell? ⟨X, 5, none⟩ = some (.int .i64 x.off) := cx 5
  have cx6 : w1.cell? ⟨X, 6, none⟩ = some (.int .i64 x.len) := cx 6
  have cx7 : w1.cell? ⟨X, 7, none⟩ = some (.int .i64 x.total) := cx 7
  have cx8 : w1.cell? ⟨X, 8, none⟩ = some (.int .i64 x.num) := cx 8
  have cx9 : w1.cell? ⟨X, 9, none⟩ = some (.slice x.da x.dn x.dc) := cx 9
  have cx10 : w1.cell? ⟨X, 10, none⟩ = some (.int .i64 x.path) := cx 10
  clear cx
  have lm := M1.out.ob.lt
  have cm0 : w1.cell? ⟨m, 0, none⟩ = some (.int .i64 t.room) := (M1.out.ob.blk).2.1 0
  have hxb := HXO.out.b
  have hs : 0 ≤ msum t.L 8 ∧ msum t.L 8 ≤ 8 * (100000 * 1000026) := by
    have h1 := msum_b HO.out 8 (by decide)
    have h2 : (N : Int) * 1000026 ≤ 100000 * 1000026 := by omega
    omega
  refine wp_run (M := (fun _ => False)) (stages [([true, false, true, true, false, false, true, true, true, true, false], 1), ([false, false, false, false, false, false, false, false, false, false, false], 4)] [false, false, false, false, false, true, false, false, false, false, true]) (by kernel_rfl) (by kernel_rfl) ?_
  refine run_stage rfl ?_
  simp only [pickAt]
  repeat (go_big_quiet_step (fail))
  refine wpQuiet_nil ?_
  refine run_want rfl ?_
  intro A hA
  go_simp
  refine (mused m U uc t N _ (M1.out.keptF (Kept.drew _ _)) HO.out hN).mono ?_
  rintro e w2 ⟨rfl, hb2⟩
  have K2 : Hid (Kept (fun _ => False) w1 w2) := Lib.hid ((Kept.drew _ w1).trans (Kept.of_below hb2))
  refine hA _ _ (Kept.of_below hb2) ?_
  try simp only [Act.put, List.setIfInBounds_toArray, List.set_cons_zero, List.set_cons_succ]
  clear A hA
  clear hb2
  refine run_stage rfl ?_
  simp only [pickAt]
  repeat (go_big_quiet_step (fail))
  refine wpQuiet_nil ?_
  refine run_want rfl ?_
  intro A hA
  go_simp
  have hms := msize x w2 HXO.out.len
  unfold It.frv at hms
  refine hms.mono ?_
  rintro e w3 ⟨rfl, hb3⟩
  have K3 : Hid (Kept (fun _ => False) w1 w3) := Lib.hid (K2.out.trans (Kept.of_below hb3))
  have B3 := Lib.hid (HB.out.trans (K3.out.below.mono HB.out.size))
  have M3 := Lib.hid (M1.out.keptF K3.out)
  have OX3 := Lib.hid (OX.out.kept K3.out (fun h => h))
  refine hA _ _ (Kept.of_below hb3) ?_
  try simp only [Act.put, List.setIfInBounds_toArray, List.set_cons_zero, List.set_cons_succ]
  clear A hA
  clear hb3 hms
  refine run_last ?_
  simp only [pickAt]
  repeat (go_big_quiet_step (fail))
  refine wpQuiet_nil ?_
  clear lx fx cx0 cx1 cx2 cx3 cx4 cx5 cx6 cx7 cx8 cx9 cx10 lm cm0
  go_wp2_with fail
  go_ret
  exact ⟨rfl, HX.out ▸ B3.out⟩
set_option maxRecDepth 100000 in
set_option maxHeartbeats 4000000 in
theorem mpush_yes (m : Nat) (U : Nat → Value) (uc : Value) (t : Mp) (N : Nat) (q : Nat) (x : It) (w : World) (h : Mo m U uc t w) (ho : t.ok N) (hN : N ≤ 100000) (hx : x.ok2) (hq : q < 8) (hr : msum t.L 8 + x.bytes ≤ t.room) : Calls Try.prog 84 #[.pointer (some ⟨m, 0, none⟩), .int .i64 q, x.val] w fun e w' => e = .returned (.bool true) ∧ MoPost m { t with L := upd t.L q (t.L q ++ [x]) } w w' := by
  unfold It.val
  have HM := Lib.hid h
  have HO := Lib.hid ho
  have HXO := Lib.hid hx
  clear h ho hx
  go_enter Try.func84, Try.ntmps84
  go_upto_region 1 with fail
  have OX := Lib.hid (Ob.new w #[.int .i64 x.kind, .int .i64 x.src, .int .i64 x.dst, .int .i64 x.prio, .int .u64 x.msg, .int .i64 x.off, .int .i64 x.len, .int .i64 x.total, .int .i64 x.num, .slice x.da x.dn x.dc, .int .i64 x.path] TX)
  have HB := Lib.hid ((Below.refl w.heap.size w).alloc (Nat.le_refl _) (.cells #[.int .i64 x.kind, .int .i64 x.src, .int .i64 x.dst, .int .i64 x.prio, .int .u64 x.msg, .int .i64 x.off, .int .i64 x.len, .int .i64 x.total, .int .i64 x.num, .slice x.da x.dn x.dc, .int .i64 x.path] TX))
  have M1 := Lib.hid (HM.out.below HB.out)
  generalize w.alloc (.cells #[.int .i64 x.kind, .int .i64 x.src, .int .i64 x.dst, .int .i64 x.prio, .int .u64 x.msg, .int .i64 x.off, .int .i64 x.len, .int .i64 x.total, .int .i64 x.num, .slice x.da x.dn x.dc, .int .i64 x.path] TX) = w1 at *
  obtain ⟨X, HX⟩ : ∃ X, Hid (w.heap.size = X) := ⟨_, Lib.hid rfl⟩
  rw [HX.out] at OX ⊢
  obtain ⟨lx, cx, fx⟩ := OX.out.blk
  have cx0 : w1.cell? ⟨X, 0, none⟩ = some (.int .i64 x.kind) := cx 0
  have cx1 : w1.cell? ⟨X, 1, none⟩ = some (.int .i64 x.src) := cx 1
  have cx2 : w1.cell? ⟨X, 2, none⟩ = some (.int .i64 x.dst) := cx 2
  have cx3 : w1.cell? ⟨X, 3, none⟩ = some (.int .i64 x.prio) := cx 3
  have cx4 : w1.cell? ⟨X, 4, none⟩ = some (.int .u64 x.msg) := cx 4
  have cx5 : w1.cell? ⟨X, 5, none⟩ = some (.int .i64 x.off) := cx 5
  have cx6 : w1.cell? ⟨X, 6, none⟩ = some (.int .i64 x.len) := cx 6
  have cx7 : w1.cell? ⟨X, 7, none⟩ = some (.int .i64 x.total) := cx 7
  have cx8 : w1.cell? ⟨X, 8, none⟩ = some (.int .i64 x.num) := cx 8
  have cx9 : w1.cell? ⟨X, 9, none⟩ = some (.slice x.da x.dn x.dc) := cx 9
  have cx10 : w1.cell? ⟨X, 10, none⟩ = some (.int .i64 x.path) := cx 10
  clear cx
  have lm := M1.out.ob.lt
  have cm0 : w1.cell? ⟨m, 0, none⟩ = some (.int .i64 t.room) := (M1.out.ob.blk).2.1 0
  have hxb := HXO.out.b
  have hs : 0 ≤ msum t.L 8 ∧ msum t.L 8 ≤ 8 * (100000 * 1000026) := by
    have h1 := msum_b HO.out 8 (by decide)
    have h2 : (N : Int) * 1000026 ≤ 100000 * 1000026 := by omega
    omega
  refine wp_run (M := (fun _ => False)) (stages [([true, false, true, true, false, false, true, true, true, true, false], 1), ([false, false, false, false, false, false, false, false, false, false, false], 4)] [false, false, false, false, false, true, false, false, false, false, true]) (by kernel_rfl) (by kernel_rfl) ?_
  refine run_stage rfl ?_
  simp only [pickAt]
  repeat (go_big_quiet_step (fail))
  refine wpQuiet_nil ?_
  refine run_want rfl ?_
  intro A hA
  go_simp
  refine (mused m U uc t N _ (M1.out.keptF (Kept.drew _ _)) HO.out hN).mono ?_
  rintro e w2 ⟨rfl, hb2⟩
  have K2 : Hid (Kept (fun _ => False) w1 w2) := Lib.hid ((Kept.drew _ w1).trans (Kept.of_below hb2))
  refine hA _ _ (Kept.of_below hb2) ?_
  try simp only [Act.put, List.setIfInBounds_toArray, List.set_cons_zero, List.set_cons_succ]
  clear A hA
  clear hb2
  refine run_stage rfl ?_
  simp only [pickAt]
  repeat (go_big_quiet_step (fail))
  refine wpQuiet_nil ?_
  refine run_want rfl ?_
  intro A hA
  go_simp
  have hms := msize x w2 HXO.out.len
  unfold It.frv at hms
  refine hms.mono ?_
  rintro e w3 ⟨rfl, hb3⟩
  have K3 : Hid (Kept (fun _ => False) w1 w3) := Lib.hid (K2.out.trans (Kept.of_below hb3))
  have B3 := Lib.hid (HB.out.trans (K3.out.below.mono HB.out.size))
  have M3 := Lib.hid (M1.out.keptF K3.out)
  have OX3 := Lib.hid (OX.out.kept K3.out (fun h => h))
  refine hA _ _ (Kept.of_below hb3) ?_
  try simp only [Act.put, List.setIfInBounds_toArray, List.set_cons_zero, List.set_cons_succ]
  clear A hA
  clear hb3 hms
  refine run_last ?_
  simp only [pickAt]
  repeat (go_big_quiet_step (fail))
  refine wpQuiet_nil ?_
  clear lx fx cx0 cx1 cx2 cx3 cx4 cx5 cx6 cx7 cx8 cx9 cx10 lm cm0
  have lm := M3.out.ob.lt
  have fm := (M3.out.ob.blk).2.2
  obtain ⟨a, c, hv, hlc, hcm⟩ := (M3.out.lines q hq).form
  have cl : w3.cell? ⟨m, 3 + q, none⟩ = some (.slice a (t.L q).length c) := by rw [M3.out.line hq, hv]
  have HV := Lib.hid hv
  obtain ⟨lx, cx, fx⟩ := OX3.out.blk
  have cx0 : w3.cell? ⟨X, 0, none⟩ = some (.int .i64 x.kind) := cx 0
  have cx1 : w3.cell? ⟨X, 1, none⟩ = some (.int .i64 x.src) := cx 1
  have cx2 : w3.cell? ⟨X, 2, none⟩ = some (.int .i64 x.dst) := cx 2
  have cx3 : w3.cell? ⟨X, 3, none⟩ = some (.int .i64 x.prio) := cx 3
  have cx4 : w3.cell? ⟨X, 4, none⟩ = some (.int .u64 x.msg) := cx 4
  have cx5 : w3.cell? ⟨X, 5, none⟩ = some (.int .i64 x.off) := cx 5
  have cx6 : w3.cell? ⟨X, 6, none⟩ = some (.int .i64 x.len) := cx 6
  have cx7 : w3.cell? ⟨X, 7, none⟩ = some (.int .i64 x.total) := cx 7
  have cx8 : w3.cell? ⟨X, 8, none⟩ = some (.int .i64 x.num) := cx 8
  have cx9 : w3.cell? ⟨X, 9, none⟩ = some (.slice x.da x.dn x.dc) := cx 9
  have cx10 : w3.cell? ⟨X, 10, none⟩ = some (.int .i64 x.path) := cx 10
  clear cx
  have hll := HO.out.len q hq
  clear hv
  go_wp2_with fail
  have nm : ¬ Since w3.heap.size m := not_since lm
  have nX : ¬ Since w3.heap.size X := not_since lx
  refine wp_heads (M := (Since w3.heap.size)) 16 (by kernel_rfl) (by kernel_rfl) ?_
  refine hd_quiet [true, true, false, true, true, true, true, true, true, false, true, false, false, true, true, false, false] (by kernel_rfl) ?_
  simp only [pickAt]
  repeat (go_big_quiet_step (fail))
  refine wpQuiet_nil ?_
  have hrdK : ∀ W, Kept (Since w3.heap.size) w3 W → Rd W 11 (.slice a (t.L q).length c) (t.L q).length ((t.L q).flatMap It.row) := fun W hK => by
    rw [← HV.out]
    exact (M3.out.lines q hq).rd.kept hK fun a n c hv hh => by
      obtain ⟨cs, h2⟩ := (M3.out.lines q hq).ty a n c hv
      exact absurd hh (Nat.not_le.2 (heap_lt h2))
  refine hd_act2 2 11 rfl rfl (by kernel_rfl) ?_ ?_
  · refine run_want rfl ?_
    intro A hA
    go_simp
    have E2 := Lib.hid (World.ownsRow_made (base := w3.heap.size) (e := TX) (size := 11) w3.drew #[] 0 (by first | omega | (simp; done) | exact Nat.le_refl _) (by decide) rfl)
    have K2' : Hid (Kept (Since w3.heap.size) w3 (w3.drew.alloc (.cells #[] TX))) := Lib.hid (((Kept.refl _ _).drewR).alloc _)
    refine hA _ _ ((Kept.refl _ _).alloc _) ?_
    try simp only [Act.put, List.setIfInBounds_toArray, List.set_cons_zero, List.set_cons_succ]
    clear A hA
    refine hd_act2 9 11 rfl rfl (by kernel_rfl) ?_ ?_
    · refine run_want rfl ?_
      intro A hA
      have hrd := hrdK _ K2'.out
      refine wp_appAt (.tmp 20) (.tmp 26) 103 (by rfl) info_x Try.underlying103 rfl (by decide) E2.out hrd (by rfl) (by rfl) (one_itrows _) (by omega) K2'.out.size ?_
      intro v9 w9 ho9 hg9 hb9
      rw [List.nil_append, Nat.zero_add] at ho9
      obtain ⟨a9, c9, rfl, _, _⟩ := (Rd.of_own ho9).form
      have G9 := Kept.of_grown (M := Since w3.heap.size) hg9 fun y hy => (E2.out.lt y hy).1
      have K9 := Lib.hid (K2'.out.trans G9)
      have O9 := Lib.hid ho9
      refine hA _ _ (G9) ?_
      try simp only [Act.put, List.setIfInBounds_toArray, List.set_cons_zero, List.set_cons_succ]
      clear A hA
      clear ho9 hg9 hb9 G9 hrd
      refine hd_act 11 rfl (by kernel_rfl) ?_
      refine run_want rfl ?_
      intro A hA
      go_simp
      have R11 := Lib.hid (Rd.one (k := 11) w9 #[.int .i64 x.kind, .int .i64 x.src, .int .i64 x.dst, .int .i64 x.prio, .int .u64 x.msg, .int .i64 x.off, .int .i64 x.len, .int .i64 x.total, .int .i64 x.num, .slice x.da x.dn x.dc, .int .i64 x.path] TX rfl)
      have K11 := Lib.hid (K9.out.alloc (.cells #[.int .i64 x.kind, .int .i64 x.src, .int .i64 x.dst, .int .i64 x.prio, .int .u64 x.msg, .int .i64 x.off, .int .i64 x.len, .int .i64 x.total, .int .i64 x.num, .slice x.da x.dn x.dc, .int .i64 x.path] TX))
      have O11 := Lib.hid (own_kept O9.out ((Kept.refl (fun _ => False) w9).alloc (.cells #[.int .i64 x.kind, .int .i64 x.src, .int .i64 x.dst, .int .i64 x.prio, .int .u64 x.msg, .int .i64 x.off, .int .i64 x.len, .int .i64 x.total, .int .i64 x.num, .slice x.da x.dn x.dc, .int .i64 x.path] TX)) (fun _ _ h => h))
      refine hA _ _ ((Kept.refl _ _).alloc _) ?_
      try simp only [Act.put, List.setIfInBounds_toArray, List.set_cons_zero, List.set_cons_succ]
      clear A hA
      refine hd_act 12 rfl (by kernel_rfl) ?_
      refine run_want rfl ?_
      intro A hA
      refine wp_appAt (.tmp 27) (.tmp 29) 103 (by rfl) info_x Try.underlying103 rfl (by decide) O11.out R11.out (by rfl) (by rfl) (by simp [Value.oneCell']) (by omega) K11.out.size ?_
      intro v12 w12 ho12 hg12 hb12
      obtain ⟨a12, c12, rfl, _, _⟩ := (Rd.of_own ho12).form
      have G12 := Kept.of_grown (M := Since w3.heap.size) hg12 fun y hy => (O11.out.lt y hy).1
      have K12 := Lib.hid (K11.out.trans G12)
      have O12 : Hid (w12.ownsRow w3.heap.size TX 11 (.slice a12 ((t.L q).length + 1) c12) (t.L q ++ [x]).length ((t.L q ++ [x]).flatMap It.row)) := Lib.hid (by simpa [It.row] using ho12)
      have hlb : m < w12.heap.size := Nat.lt_of_lt_of_le lm K12.out.size
      have hfb : ∀ i, w12.frozen? ⟨m, i, none⟩ = false := fun i => (K12.out.frozen m i lm nm).trans (fm i)
      have hcb : w12.cell? ⟨m, 3 + q, none⟩ = some (.slice a (t.L q).length c) := (K12.out.cell m (3 + q) lm nm).trans cl
      refine hA _ _ (G12) ?_
      try simp only [Act.put, List.setIfInBounds_toArray, List.set_cons_zero, List.set_cons_succ]
      clear A hA
      clear ho12 hg12 hb12 G12
      refine hd_quiet [false, false, false, false, false, false, false, false, false, false, false, false, false, false, false, true, false] (by kernel_rfl) ?_
      simp only [pickAt]
      repeat (go_big_quiet_step (fail))
      refine wpQuiet_nil ?_
      refine hd_tail rfl (by kernel_rfl) ?_
      simp only [List.drop_succ_cons, List.drop_zero]
      go_wp2
      refine NoPanic.normal ?_
      go_wp2
      go_ret
      obtain ⟨r1, r2⟩ := M3.out.setLine hq K12.out O12.out
      exact ⟨rfl, _, _, r1, (Kept.of_below B3.out).trans r2⟩
    · refine run_want rfl ?_
      intro A hA
      go_simp
      have R11 : Hid (Rd ((w3.drew.alloc (.cells #[] TX)).alloc (.cells #[.int .i64 x.kind, .int .i64 x.src, .int .i64 x.dst, .int .i64 x.prio, .int .u64 x.msg, .int .i64 x.off, .int .i64 x.len, .int .i64 x.total, .int .i64 x.num, .slice x.da x.dn x.dc, .int .i64 x.path] TX)) 11 (.slice (some ⟨w3.heap.size + 1, 0, none⟩) 1 1) 1 [.int .i64 x.kind, .int .i64 x.src, .int .i64 x.dst, .int .i64 x.prio, .int .u64 x.msg, .int .i64 x.off, .int .i64 x.len, .int .i64 x.total, .int .i64 x.num, .slice x.da x.dn x.dc, .int .i64 x.path]) := Lib.hid (by
        have h0 := Rd.one (k := 11) (w3.drew.alloc (.cells #[] TX)) #[.int .i64 x.kind, .int .i64 x.src, .int .i64 x.dst, .int .i64 x.prio, .int .u64 x.msg, .int .i64 x.off, .int .i64 x.len, .int .i64 x.total, .int .i64 x.num, .slice x.da x.dn x.dc, .int .i64 x.path] TX rfl
        rw [World.size_alloc] at h0
        exact h0)
      have K11 := Lib.hid (K2'.out.alloc (.cells #[.int .i64 x.kind, .int .i64 x.src, .int .i64 x.dst, .int .i64 x.prio, .int .u64 x.msg, .int .i64 x.off, .int .i64 x.len, .int .i64 x.total, .int .i64 x.num, .slice x.da x.dn x.dc, .int .i64 x.path] TX))
      have E11 := Lib.hid (own_kept E2.out ((Kept.refl (fun _ => False) _).alloc (.cells #[.int .i64 x.kind, .int .i64 x.src, .int .i64 x.dst, .int .i64 x.prio, .int .u64 x.msg, .int .i64 x.off, .int .i64 x.len, .int .i64 x.total, .int .i64 x.num, .slice x.da x.dn x.dc, .int .i64 x.path] TX)) (fun _ _ h => h))
      refine hA _ _ ((Kept.refl _ _).alloc _) ?_
      try simp only [Act.put, List.setIfInBounds_toArray, List.set_cons_zero, List.set_cons_succ]
      clear A hA
      refine hd_act 9 rfl (by kernel_rfl) ?_
      refine run_want rfl ?_
      intro A hA
      have hrd := hrdK _ K11.out
      refine wp_appAt (.tmp 20) (.tmp 26) 103 (by rfl) info_x Try.underlying103 rfl (by decide) E11.out hrd (by rfl) (by rfl) (one_itrows _) (by omega) K11.out.size ?_
      intro v9 w9 ho9 hg9 hb9
      rw [List.nil_append, Nat.zero_add] at ho9
      obtain ⟨a9, c9, rfl, _, _⟩ := (Rd.of_own ho9).form
      have G9 := Kept.of_grown (M := Since w3.heap.size) hg9 fun y hy => (E11.out.lt y hy).1
      have K9 := Lib.hid (K11.out.trans G9)
      have O9 := Lib.hid ho9
      have R9 := Lib.hid (R11.out.kept (M := Lm (.slice (some ⟨w3.drew.heap.size, 0, none⟩) 0 0)) (Kept.of_grown hg9 fun y hy => hy) (fun a n c hv hh => by
        cases hv
        have h1 : w3.heap.size = w3.heap.size + 1 := Option.some.inj hh
        omega))
      refine hA _ _ (G9) ?_
      try simp only [Act.put, List.setIfInBounds_toArray, List.set_cons_zero, List.set_cons_succ]
      clear A hA
      clear ho9 hg9 hb9 G9 hrd
      refine hd_act 12 rfl (by kernel_rfl) ?_
      refine run_want rfl ?_
      intro A hA
      refine wp_appAt (.tmp 27) (.tmp 29) 103 (by rfl) info_x Try.underlying103 rfl (by decide) O9.out R9.out (by rfl) (by rfl) (by simp [Value.oneCell']) (by omega) K9.out.size ?_
      intro v12 w12 ho12 hg12 hb12
      obtain ⟨a12, c12, rfl, _, _⟩ := (Rd.of_own ho12).form
      have G12 := Kept.of_grown (M := Since w3.heap.size) hg12 fun y hy => (O9.out.lt y hy).1
      have K12 := Lib.hid (K9.out.trans G12)
      have O12 : Hid (w12.ownsRow w3.heap.size TX 11 (.slice a12 ((t.L q).length + 1) c12) (t.L q ++ [x]).length ((t.L q ++ [x]).flatMap It.row)) := Lib.hid (by simpa [It.row] using ho12)
      have hlb : m < w12.heap.size := Nat.lt_of_lt_of_le lm K12.out.size
      have hfb : ∀ i, w12.frozen? ⟨m, i, none⟩ = false := fun i => (K12.out.frozen m i lm nm).trans (fm i)
      have hcb : w12.cell? ⟨m, 3 + q, none⟩ = some (.slice a (t.L q).length c) := (K12.out.cell m (3 + q) lm nm).trans cl
      refine hA _ _ (G12) ?_
      try simp only [Act.put, List.setIfInBounds_toArray, List.set_cons_zero, List.set_cons_succ]
      clear A hA
      clear ho12 hg12 hb12 G12
      refine hd_quiet [false, false, false, false, false, false, false, false, false, false, false, false, false, false, false, true, false] (by kernel_rfl) ?_
      simp only [pickAt]
      repeat (go_big_quiet_step (fail))
      refine wpQuiet_nil ?_
      refine hd_tail rfl (by kernel_rfl) ?_
      simp only [List.drop_succ_cons, List.drop_zero]
      go_wp2
      refine NoPanic.normal ?_
      go_wp2
      go_ret
      obtain ⟨r1, r2⟩ := M3.out.setLine hq K12.out O12.out
      exact ⟨rfl, _, _, r1, (Kept.of_below B3.out).trans r2⟩
  · refine run_want rfl ?_
    intro A hA
    go_simp
    have R11 := Lib.hid (Rd.one (k := 11) w3.drew #[.int .i64 x.kind, .int .i64 x.src, .int .i64 x.dst, .int .i64 x.prio, .int .u64 x.msg, .int .i64 x.off, .int .i64 x.len, .int .i64 x.total, .int .i64 x.num, .slice x.da x.dn x.dc, .int .i64 x.path] TX rfl)
    have K11 : Hid (Kept (Since w3.heap.size) w3 (w3.drew.alloc (.cells #[.int .i64 x.kind, .int .i64 x.src, .int .i64 x.dst, .int .i64 x.prio, .int .u64 x.msg, .int .i64 x.off, .int .i64 x.len, .int .i64 x.total, .int .i64 x.num, .slice x.da x.dn x.dc, .int .i64 x.path] TX))) := Lib.hid (((Kept.refl _ _).drewR).alloc _)
    refine hA _ _ ((Kept.refl _ _).alloc _) ?_
    try simp only [Act.put, List.setIfInBounds_toArray, List.set_cons_zero, List.set_cons_succ]
    clear A hA
    refine hd_act 2 rfl (by kernel_rfl) ?_
    refine run_want rfl ?_
    intro A hA
    go_simp
    have E2 : Hid (((w3.drew.alloc (.cells #[.int .i64 x.kind, .int .i64 x.src, .int .i64 x.dst, .int .i64 x.prio, .int .u64 x.msg, .int .i64 x.off, .int .i64 x.len, .int .i64 x.total, .int .i64 x.num, .slice x.da x.dn x.dc, .int .i64 x.path] TX)).alloc (.cells #[] TX)).ownsRow w3.heap.size TX 11 (.slice (some ⟨w3.heap.size + 1, 0, none⟩) 0 0) 0 []) := Lib.hid (by
      have h0 := World.ownsRow_made (base := w3.heap.size) (e := TX) (size := 11) (w3.drew.alloc (.cells #[.int .i64 x.kind, .int .i64 x.src, .int .i64 x.dst, .int .i64 x.prio, .int .u64 x.msg, .int .i64 x.off, .int .i64 x.len, .int .i64 x.total, .int .i64 x.num, .slice x.da x.dn x.dc, .int .i64 x.path] TX)) #[] 0 (by rw [World.size_alloc]; exact Nat.le_succ _) (by decide) rfl
      rw [World.size_alloc] at h0
      exact h0)
    have R2 := Lib.hid (R11.out.kept ((Kept.refl (fun _ => False) _).alloc (.cells #[] TX)) (fun _ _ _ _ h => h))
    have K2' := Lib.hid (K11.out.alloc (.cells #[] TX))
    refine hA _ _ ((Kept.refl _ _).alloc _) ?_
    try simp only [Act.put, List.setIfInBounds_toArray, List.set_cons_zero, List.set_cons_succ]
    clear A hA
    refine hd_act 9 rfl (by kernel_rfl) ?_
    refine run_want rfl ?_
    intro A hA
    have hrd := hrdK _ K2'.out
    refine wp_appAt (.tmp 20) (.tmp 26) 103 (by rfl) info_x Try.underlying103 rfl (by decide) E2.out hrd (by rfl) (by rfl) (one_itrows _) (by omega) K2'.out.size ?_
    intro v9 w9 ho9 hg9 hb9
    rw [List.nil_append, Nat.zero_add] at ho9
    obtain ⟨a9, c9, rfl, _, _⟩ := (Rd.of_own ho9).form
    have G9 := Kept.of_grown (M := Since w3.heap.size) hg9 fun y hy => (E2.out.lt y hy).1
    have K9 := Lib.hid (K2'.out.trans G9)
    have O9 := Lib.hid ho9
    have R9 := Lib.hid (R2.out.kept (M := Lm (.slice (some ⟨w3.heap.size + 1, 0, none⟩) 0 0)) (Kept.of_grown hg9 fun y hy => hy) (fun a n c hv hh => by
      cases hv
      have h1 : w3.heap.size + 1 = w3.heap.size := Option.some.inj hh
      omega))
    refine hA _ _ (G9) ?_
    try simp only [Act.put, List.setIfInBounds_toArray, List.set_cons_zero, List.set_cons_succ]
    clear A hA
    clear ho9 hg9 hb9 G9 hrd
    refine hd_act 12 rfl (by kernel_rfl) ?_
    refine run_want rfl ?_
    intro A hA
    refine wp_appAt (.tmp 27) (.tmp 29) 103 (by rfl) info_x Try.underlying103 rfl (by decide) O9.out R9.out (by rfl) (by rfl) (by simp [Value.oneCell']) (by omega) K9.out.size ?_
    intro v12 w12 ho12 hg12 hb12
    obtain ⟨a12, c12, rfl, _, _⟩ := (Rd.of_own ho12).form
    have G12 := Kept.of_grown (M := Since w3.heap.size) hg12 fun y hy => (O9.out.lt y hy).1
    have K12 := Lib.hid (K9.out.trans G12)
    have O12 : Hid (w12.ownsRow w3.heap.size TX 11 (.slice a12 ((t.L q).length + 1) c12) (t.L q ++ [x]).length ((t.L q ++ [x]).flatMap It.row)) := Lib.hid (by simpa [It.row] using ho12)
    have hlb : m < w12.heap.size := Nat.lt_of_lt_of_le lm K12.out.size
    have hfb : ∀ i, w12.frozen? ⟨m, i, none⟩ = false := fun i => (K12.out.frozen m i lm nm).trans (fm i)
    have hcb : w12.cell? ⟨m, 3 + q, none⟩ = some (.slice a (t.L q).length c) := (K12.out.cell m (3 + q) lm nm).trans cl
    refine hA _ _ (G12) ?_
    try simp only [Act.put, List.setIfInBounds_toArray, List.set_cons_zero, List.set_cons_succ]
    clear A hA
    clear ho12 hg12 hb12 G12
    refine hd_quiet [false, false, false, false, false, false, false, false, false, false, false, false, false, false, false, true, false] (by kernel_rfl) ?_
    simp only [pickAt]
    repeat (go_big_quiet_step (fail))
    refine wpQuiet_nil ?_
    refine hd_tail rfl (by kernel_rfl) ?_
    simp only [List.drop_succ_cons, List.drop_zero]
    go_wp2
    refine NoPanic.normal ?_
    go_wp2
    go_ret
    obtain ⟨r1, r2⟩ := M3.out.setLine hq K12.out O12.out
    exact ⟨rfl, _, _, r1, (Kept.of_below B3.out).trans r2⟩
end Go.Proofs.Ytoihhidoafgoaaa
/- The document's port (chapter 13): Put. -/
namespace Go.Proofs.Ytoihhidoafgoaaa
open Go.RowKit

theorem Mo.setCred {m : Nat} {U : Nat → Value} {uc : Value} {t : Mp} {w w' : World} (h : Mo m U uc t w) {B : Nat} {v' : Value} {l' : List It} (hk : Kept (Since w.heap.size) w w') (ho : w'.ownsRow B TX 11 v' l'.length (l'.flatMap It.row)) : Mo m U v' { t with C := l' } (w'.setCell ⟨m, 11, none⟩ v') ∧ Kept (Only m) w (w'.setCell ⟨m, 11, none⟩ v') := by
  have nm : ¬ Since w.heap.size m := not_since h.ob.lt
  have hs : ∀ g, Since w.heap.size g → g < w.heap.size → ∃ T, Ty w g T ∧ T ≠ TX := fun g h1 h2 => absurd h1 (Nat.not_le.2 h2)
  have h1 := h.kept hk nm hs
  have hkb : Kept (Only m) w' (w'.setCell ⟨m, 11, none⟩ v') := (Kept.refl _ _).setO
  have hr : Rt w' v' l' := ⟨Rd.of_own ho, fun a n c hv => own_tyA ho hv⟩
  exact ⟨⟨h1.ob.set 11 v', fun i hi => h1.row hkb (h1.lines i hi), h1.row hkb hr⟩, (hk.mono fun b hb hh => absurd hh (Nat.not_le.2 hb)).trans hkb⟩
set_option maxRecDepth 100000 in
set_option maxHeartbeats 4000000 in
theorem mput_cfull (m : Nat) (U : Nat → Value) (uc : Value) (t : Mp) (x : It) (w : World) (h : Mo m U uc t w) (hk : (x.kind == 11) = true) (hc : decide (t.most ≤ (t.C.length : Int)) = true) : Calls Try.prog 78 #[.pointer (some ⟨m, 0, none⟩), x.val] w fun e w' => e = .returned (.int .i64 3) ∧ Below w.heap.size w w' := by
  unfold It.val
  have HM := Lib.hid h
  clear h
  go_enter Try.func78, Try.ntmps78
  go_upto_region 1 with fail
  have OX := Lib.hid (Ob.new w #[.int .i64 x.kind, .int .i64 x.src, .int .i64 x.dst, .int .i64 x.prio, .int .u64 x.msg, .int .i64 x.off, .int .i64 x.len, .int .i64 x.total, .int .i64 x.num, .slice x.da x.dn x.dc, .int .i64 x.path] TX)
  have HB := Lib.hid ((Below.refl w.heap.size w).alloc (Nat.le_refl _) (.cells #[.int .i64 x.kind, .int .i64 x.src, .int .i64 x.dst, .int .i64 x.prio, .int .u64 x.msg, .int .i64 x.off, .int .i64 x.len, .int .i64 x.total, .int .i64 x.num, .slice x.da x.dn x.dc, .int .i64 x.path] TX))
  have M1 := Lib.hid (HM.out.below HB.out)
  generalize w.alloc (.cells #[.int .i64 x.kind, .int .i64 x.src, .int .i64 x.dst, .int .i64 x.prio, .int .u64 x.msg, .int .i64 x.off, .int .i64 x.len, .int .i64 x.total, .int .i64 x.num, .slice x.da x.dn x.dc, .int .i64 x.path] TX) = w1 at *
  obtain ⟨X, HX⟩ : ∃ X, Hid (w.heap.size = X) := ⟨_, Lib.hid rfl⟩
  rw [HX.out] at OX ⊢
  obtain ⟨lx, cx, fx⟩ := OX.out.blk
  have cx0 : w1.cell? ⟨X, 0, none⟩ = some (.int .i64 x.kind) := cx 0
  have cx1 : w1.cell? ⟨X, 1, none⟩ = some (.int .i64 x.src) := cx 1
  have cx2 : w1.cell? ⟨X, 2, none⟩ = some (.int .i64 x.dst) := cx 2
  have cx3 : w1.cell? ⟨X, 3, none⟩ = some (.int .i64 x.prio) := cx 3
  have cx4 : w1.cell? ⟨X, 4, none⟩ = some (.int .u64 x.msg) := cx 4
  have cx5 : w1.cell? ⟨X, 5, none⟩ = some (.int .i64 x.off) := cx 5
  have cx6 : w1.cell? ⟨X, 6, none⟩ = some (.int .i64 x.len) := cx 6
  have cx7 : w1.cell? ⟨X, 7, none⟩ = some (.int .i64 x.total) := cx 7
  have cx8 : w1.cell? ⟨X, 8, none⟩ = some (.int .i64 x.num) := cx 8
  have cx9 : w1.cell? ⟨X, 9, none⟩ = some (.slice x.da x.dn x.dc) := cx 9
  have cx10 : w1.cell? ⟨X, 10, none⟩ = some (.int .i64 x.path) := cx 10
  clear cx
  have lm := M1.out.ob.lt
  have fm := (M1.out.ob.blk).2.2
  have cm1 : w1.cell? ⟨m, 1, none⟩ = some (.int .i64 t.most) := (M1.out.ob.blk).2.1 1
  have cm2 : w1.cell? ⟨m, 2, none⟩ = some (.bool t.trim) := (M1.out.ob.blk).2.1 2
  obtain ⟨a, c, hv, hlc, hcm⟩ := M1.out.cr.form
  have HV := Lib.hid hv
  have cl : w1.cell? ⟨m, 11, none⟩ = some (.slice a t.C.length c) := by rw [← hv]; exact (M1.out.ob.blk).2.1 11
  clear hv
  go_wp2_with fail
  go_quiet (fail)
  go_wp2_with fail
  go_ret
  exact ⟨rfl, below_dn (HX.out ▸ HB.out)⟩
set_option maxRecDepth 100000 in
set_option maxHeartbeats 4000000 in
theorem mput_cred (m : Nat) (U : Nat → Value) (uc : Value) (t : Mp) (x : It) (w : World) (h : Mo m U uc t w) (hk : (x.kind == 11) = true) (hc : decide (t.most ≤ (t.C.length : Int)) = false) (hl : t.C.length ≤ 100000) : Calls Try.prog 78 #[.pointer (some ⟨m, 0, none⟩), x.val] w fun e w' => e = .returned (.int .i64 1) ∧ MoPost m { t with C := t.C ++ [x] } w w' := by
  unfold It.val
  have HM := Lib.hid h
  clear h
  go_enter Try.func78, Try.ntmps78
  go_upto_region 1 with fail
  have OX := Lib.hid (Ob.new w #[.int .i64 x.kind, .int .i64 x.src, .int .i64 x.dst, .int .i64 x.prio, .int .u64 x.msg, .int .i64 x.off, .int .i64 x.len, .int .i64 x.total, .int .i64 x.num, .slice x.da x.dn x.dc, .int .i64 x.path] TX)
  have HB := Lib.hid ((Below.refl w.heap.size w).alloc (Nat.le_refl _) (.cells #[.int .i64 x.kind, .int .i64 x.src, .int .i64 x.dst, .int .i64 x.prio, .int .u64 x.msg, .int .i64 x.off, .int .i64 x.len, .int .i64 x.total, .int .i64 x.num, .slice x.da x.dn x.dc, .int .i64 x.path] TX))
  have M1 := Lib.hid (HM.out.below HB.out)
  generalize w.alloc (.cells #[.int .i64 x.kind, .int .i64 x.src, .int .i64 x.dst, .int .i64 x.prio, .int .u64 x.msg, .int .i64 x.off, .int .i64 x.len, .int .i64 x.total, .int .i64 x.num, .slice x.da x.dn x.dc, .int .i64 x.path] TX) = w1 at *
  obtain ⟨X, HX⟩ : ∃ X, Hid (w.heap.size = X) := ⟨_, Lib.hid rfl⟩
  rw [HX.out] at OX ⊢
  obtain ⟨lx, cx, fx⟩ := OX.out.blk
  have cx0 : w1.cell? ⟨X, 0, none⟩ = some (.int .i64 x.kind) := cx 0
  have cx1 : w1.cell? ⟨X, 1, none⟩ = some (.int .i64 x.src) := cx 1
  have cx2 : w1.cell? ⟨X, 2, none⟩ = some (.int .i64 x.dst) := cx 2
  have cx3 : w1.cell? ⟨X, 3, none⟩ = some (.int .i64 x.prio) := cx 3
  have cx4 : w1.cell? ⟨X, 4, none⟩ = some (.int .u64 x.msg) := cx 4
  have cx5 : w1.cell? ⟨X, 5, none⟩ = some (.int .i64 x.off) := cx 5
  have cx6 : w1.cell? ⟨X, 6, none⟩ = some (.int .i64 x.len) := cx 6
  have cx7 : w1.cell? ⟨X, 7, none⟩ = some (.int .i64 x.total) := cx 7
  have cx8 : w1.cell? ⟨X, 8, none⟩ = some (.int .i64 x.num) := cx 8
  have cx9 : w1.cell? ⟨X, 9, none⟩ = some (.slice x.da x.dn x.dc) := cx 9
  have cx10 : w1.cell? ⟨X, 10, none⟩ = some (.int .i64 x.path) := cx 10
  clear cx
  have lm := M1.out.ob.lt
  have fm := (M1.out.ob.blk).2.2
  have cm1 : w1.cell? ⟨m, 1, none⟩ = some (.int .i64 t.most) := (M1.out.ob.blk).2.1 1
  have cm2 : w1.cell? ⟨m, 2, none⟩ = some (.bool t.trim) := (M1.out.ob.blk).2.1 2
  obtain ⟨a, c, hv, hlc, hcm⟩ := M1.out.cr.form
  have HV := Lib.hid hv
  have cl : w1.cell? ⟨m, 11, none⟩ = some (.slice a t.C.length c) := by rw [← hv]; exact (M1.out.ob.blk).2.1 11
  clear hv
  go_wp2_with fail
  refine wp_region_quiet_lit (by kernel_rfl) (by kernel_rfl) ?_
  try simp only [List.append]
  repeat (first | go_big_quiet_step (fail) | quiet_step (fail))
  refine wpQuiet_nil ?_
  intro W hW
  have MW : Hid (Mo m U uc t W) := by obtain ⟨n, rfl⟩ := hW; exact Lib.hid (M1.out.keptF (Kept.dn _ _ _))
  have OW : Hid (Ob W X #[.int .i64 x.kind, .int .i64 x.src, .int .i64 x.dst, .int .i64 x.prio, .int .u64 x.msg, .int .i64 x.off, .int .i64 x.len, .int .i64 x.total, .int .i64 x.num, .slice x.da x.dn x.dc, .int .i64 x.path] TX) := by obtain ⟨n, rfl⟩ := hW; exact Lib.hid OX.out.dn
  have BW : Hid (Below w.heap.size w W) := by obtain ⟨n, rfl⟩ := hW; exact Lib.hid (below_dn HB.out)
  clear hW lx fx cx0 cx1 cx2 cx3 cx4 cx5 cx6 cx7 cx8 cx9 cx10 lm fm cm1 cm2 cl
  obtain ⟨lx, cx, fx⟩ := OW.out.blk
  have cx0 : W.cell? ⟨X, 0, none⟩ = some (.int .i64 x.kind) := cx 0
  have cx1 : W.cell? ⟨X, 1, none⟩ = some (.int .i64 x.src) := cx 1
  have cx2 : W.cell? ⟨X, 2, none⟩ = some (.int .i64 x.dst) := cx 2
  have cx3 : W.cell? ⟨X, 3, none⟩ = some (.int .i64 x.prio) := cx 3
  have cx4 : W.cell? ⟨X, 4, none⟩ = some (.int .u64 x.msg) := cx 4
  have cx5 : W.cell? ⟨X, 5, none⟩ = some (.int .i64 x.off) := cx 5
  have cx6 : W.cell? ⟨X, 6, none⟩ = some (.int .i64 x.len) := cx 6
  have cx7 : W.cell? ⟨X, 7, none⟩ = some (.int .i64 x.total) := cx 7
  have cx8 : W.cell? ⟨X, 8, none⟩ = some (.int .i64 x.num) := cx 8
  have cx9 : W.cell? ⟨X, 9, none⟩ = some (.slice x.da x.dn x.dc) := cx 9
  have cx10 : W.cell? ⟨X, 10, none⟩ = some (.int .i64 x.path) := cx 10
  clear cx
  have lm := MW.out.ob.lt
  have fm := (MW.out.ob.blk).2.2
  have cl : W.cell? ⟨m, 11, none⟩ = some (.slice a t.C.length c) := by rw [← HV.out]; exact (MW.out.ob.blk).2.1 11
  go_wp2_with fail
  have nm : ¬ Since W.heap.size m := not_since lm
  have nX : ¬ Since W.heap.size X := not_since lx
  refine wp_heads (M := (Since W.heap.size)) 12 (by kernel_rfl) (by kernel_rfl) ?_
  refine hd_quiet [true, false, true, true, true, true, false, true, false, false, false, false, false] (by kernel_rfl) ?_
  simp only [pickAt]
  repeat (go_big_quiet_step (fail))
  refine wpQuiet_nil ?_
  have hrdK : ∀ W', Kept (Since W.heap.size) W W' → Rd W' 11 (.slice a t.C.length c) t.C.length (t.C.flatMap It.row) := fun _ hK => by
    rw [← HV.out]
    exact MW.out.cr.rd.kept hK fun a n c hv hh => by
      obtain ⟨cs, h2⟩ := MW.out.cr.ty a n c hv
      exact absurd hh (Nat.not_le.2 (heap_lt h2))
  refine hd_act2 1 8 rfl rfl (by kernel_rfl) ?_ ?_
  · refine run_want rfl ?_
    intro A hA
    go_simp
    have E2 := Lib.hid (World.ownsRow_made (base := W.heap.size) (e := TX) (size := 11) W.drew #[] 0 (by first | omega | (simp; done) | exact Nat.le_refl _) (by decide) rfl)
    have K2' : Hid (Kept (Since W.heap.size) W (W.drew.alloc (.cells #[] TX))) := Lib.hid (((Kept.refl _ _).drewR).alloc _)
    refine hA _ _ ((Kept.refl _ _).alloc _) ?_
    try simp only [Act.put, List.setIfInBounds_toArray, List.set_cons_zero, List.set_cons_succ]
    clear A hA
    refine hd_act2 6 8 rfl rfl (by kernel_rfl) ?_ ?_
    · refine run_want rfl ?_
      intro A hA
      have hrd := hrdK _ K2'.out
      refine wp_appAt (.tmp 21) (.tmp 25) 103 (by rfl) info_x Try.underlying103 rfl (by decide) E2.out hrd (by rfl) (by rfl) (one_itrows _) (by omega) K2'.out.size ?_
      intro v9 w9 ho9 hg9 hb9
      rw [List.nil_append, Nat.zero_add] at ho9
      obtain ⟨a9, c9, rfl, _, _⟩ := (Rd.of_own ho9).form
      have G9 := Kept.of_grown (M := Since W.heap.size) hg9 fun y hy => (E2.out.lt y hy).1
      have K9 := Lib.hid (K2'.out.trans G9)
      have O9 := Lib.hid ho9
      refine hA _ _ (G9) ?_
      try simp only [Act.put, List.setIfInBounds_toArray, List.set_cons_zero, List.set_cons_succ]
      clear A hA
      clear ho9 hg9 hb9 G9 hrd
      refine hd_act 8 rfl (by kernel_rfl) ?_
      refine run_want rfl ?_
      intro A hA
      go_simp
      have R11 := Lib.hid (Rd.one (k := 11) w9 #[.int .i64 x.kind, .int .i64 x.src, .int .i64 x.dst, .int .i64 x.prio, .int .u64 x.msg, .int .i64 x.off, .int .i64 x.len, .int .i64 x.total, .int .i64 x.num, .slice x.da x.dn x.dc, .int .i64 x.path] TX rfl)
      have K11 := Lib.hid (K9.out.alloc (.cells #[.int .i64 x.kind, .int .i64 x.src, .int .i64 x.dst, .int .i64 x.prio, .int .u64 x.msg, .int .i64 x.off, .int .i64 x.len, .int .i64 x.total, .int .i64 x.num, .slice x.da x.dn x.dc, .int .i64 x.path] TX))
      have O11 := Lib.hid (own_kept O9.out ((Kept.refl (fun _ => False) w9).alloc (.cells #[.int .i64 x.kind, .int .i64 x.src, .int .i64 x.dst, .int .i64 x.prio, .int .u64 x.msg, .int .i64 x.off, .int .i64 x.len, .int .i64 x.total, .int .i64 x.num, .slice x.da x.dn x.dc, .int .i64 x.path] TX)) (fun _ _ h => h))
      refine hA _ _ ((Kept.refl _ _).alloc _) ?_
      try simp only [Act.put, List.setIfInBounds_toArray, List.set_cons_zero, List.set_cons_succ]
      clear A hA
      refine hd_act 9 rfl (by kernel_rfl) ?_
      refine run_want rfl ?_
      intro A hA
      refine wp_appAt (.tmp 26) (.tmp 28) 103 (by rfl) info_x Try.underlying103 rfl (by decide) O11.out R11.out (by rfl) (by rfl) (by simp [Value.oneCell']) (by omega) K11.out.size ?_
      intro v12 w12 ho12 hg12 hb12
      obtain ⟨a12, c12, rfl, _, _⟩ := (Rd.of_own ho12).form
      have G12 := Kept.of_grown (M := Since W.heap.size) hg12 fun y hy => (O11.out.lt y hy).1
      have K12 := Lib.hid (K11.out.trans G12)
      have O12 : Hid (w12.ownsRow W.heap.size TX 11 (.slice a12 (t.C.length + 1) c12) (t.C ++ [x]).length ((t.C ++ [x]).flatMap It.row)) := Lib.hid (by simpa [It.row] using ho12)
      have hlb : m < w12.heap.size := Nat.lt_of_lt_of_le lm K12.out.size
      have hfb : ∀ i, w12.frozen? ⟨m, i, none⟩ = false := fun i => (K12.out.frozen m i lm nm).trans (fm i)
      have hcb : w12.cell? ⟨m, 11, none⟩ = some (.slice a t.C.length c) := (K12.out.cell m (11) lm nm).trans cl
      refine hA _ _ (G12) ?_
      try simp only [Act.put, List.setIfInBounds_toArray, List.set_cons_zero, List.set_cons_succ]
      clear A hA
      clear ho12 hg12 hb12 G12
      refine hd_quiet [false, false, false, false, false, false, false, false, false, false, true, true, false] (by kernel_rfl) ?_
      simp only [pickAt]
      repeat (go_big_quiet_step (fail))
      refine wpQuiet_nil ?_
      refine hd_tail rfl (by kernel_rfl) ?_
      simp only [List.drop_succ_cons, List.drop_zero]
      go_wp2
      refine NoPanic.normal ?_
      go_wp2
      go_ret
      obtain ⟨r1, r2⟩ := MW.out.setCred K12.out O12.out
      exact ⟨rfl, _, _, r1, (Kept.of_below BW.out).trans r2⟩
    · refine run_want rfl ?_
      intro A hA
      go_simp
      have R11 : Hid (Rd ((W.drew.alloc (.cells #[] TX)).alloc (.cells #[.int .i64 x.kind, .int .i64 x.src, .int .i64 x.dst, .int .i64 x.prio, .int .u64 x.msg, .int .i64 x.off, .int .i64 x.len, .int .i64 x.total, .int .i64 x.num, .slice x.da x.dn x.dc, .int .i64 x.path] TX)) 11 (.slice (some ⟨W.heap.size + 1, 0, none⟩) 1 1) 1 [.int .i64 x.kind, .int .i64 x.src, .int .i64 x.dst, .int .i64 x.prio, .int .u64 x.msg, .int .i64 x.off, .int .i64 x.len, .int .i64 x.total, .int .i64 x.num, .slice x.da x.dn x.dc, .int .i64 x.path]) := Lib.hid (by
        have h0 := Rd.one (k := 11) (W.drew.alloc (.cells #[] TX)) #[.int .i64 x.kind, .int .i64 x.src, .int .i64 x.dst, .int .i64 x.prio, .int .u64 x.msg, .int .i64 x.off, .int .i64 x.len, .int .i64 x.total, .int .i64 x.num, .slice x.da x.dn x.dc, .int .i64 x.path] TX rfl
        rw [World.size_alloc] at h0
        exact h0)
      have K11 := Lib.hid (K2'.out.alloc (.cells #[.int .i64 x.kind, .int .i64 x.src, .int .i64 x.dst, .int .i64 x.prio, .int .u64 x.msg, .int .i64 x.off, .int .i64 x.len, .int .i64 x.total, .int .i64 x.num, .slice x.da x.dn x.dc, .int .i64 x.path] TX))
      have E11 := Lib.hid (own_kept E2.out ((Kept.refl (fun _ => False) _).alloc (.cells #[.int .i64 x.kind, .int .i64 x.src, .int .i64 x.dst, .int .i64 x.prio, .int .u64 x.msg, .int .i64 x.off, .int .i64 x.len, .int .i64 x.total, .int .i64 x.num, .slice x.da x.dn x.dc, .int .i64 x.path] TX)) (fun _ _ h => h))
      refine hA _ _ ((Kept.refl _ _).alloc _) ?_
      try simp only [Act.put, List.setIfInBounds_toArray, List.set_cons_zero, List.set_cons_succ]
      clear A hA
      refine hd_act 6 rfl (by kernel_rfl) ?_
      refine run_want rfl ?_
      intro A hA
      have hrd := hrdK _ K11.out
      refine wp_appAt (.tmp 21) (.tmp 25) 103 (by rfl) info_x Try.underlying103 rfl (by decide) E11.out hrd (by rfl) (by rfl) (one_itrows _) (by omega) K11.out.size ?_
      intro v9 w9 ho9 hg9 hb9
      rw [List.nil_append, Nat.zero_add] at ho9
      obtain ⟨a9, c9, rfl, _, _⟩ := (Rd.of_own ho9).form
      have G9 := Kept.of_grown (M := Since W.heap.size) hg9 fun y hy => (E11.out.lt y hy).1
      have K9 := Lib.hid (K11.out.trans G9)
      have O9 := Lib.hid ho9
      have R9 := Lib.hid (R11.out.kept (M := Lm (.slice (some ⟨W.drew.heap.size, 0, none⟩) 0 0)) (Kept.of_grown hg9 fun y hy => hy) (fun a n c hv hh => by
        cases hv
        have h1 : W.heap.size = W.heap.size + 1 := Option.some.inj hh
        omega))
      refine hA _ _ (G9) ?_
      try simp only [Act.put, List.setIfInBounds_toArray, List.set_cons_zero, List.set_cons_succ]
      clear A hA
      clear ho9 hg9 hb9 G9 hrd
      refine hd_act 9 rfl (by kernel_rfl) ?_
      refine run_want rfl ?_
      intro A hA
      refine wp_appAt (.tmp 26) (.tmp 28) 103 (by rfl) info_x Try.underlying103 rfl (by decide) O9.out R9.out (by rfl) (by rfl) (by simp [Value.oneCell']) (by omega) K9.out.size ?_
      intro v12 w12 ho12 hg12 hb12
      obtain ⟨a12, c12, rfl, _, _⟩ := (Rd.of_own ho12).form
      have G12 := Kept.of_grown (M := Since W.heap.size) hg12 fun y hy => (O9.out.lt y hy).1
      have K12 := Lib.hid (K9.out.trans G12)
      have O12 : Hid (w12.ownsRow W.heap.size TX 11 (.slice a12 (t.C.length + 1) c12) (t.C ++ [x]).length ((t.C ++ [x]).flatMap It.row)) := Lib.hid (by simpa [It.row] using ho12)
      have hlb : m < w12.heap.size := Nat.lt_of_lt_of_le lm K12.out.size
      have hfb : ∀ i, w12.frozen? ⟨m, i, none⟩ = false := fun i => (K12.out.frozen m i lm nm).trans (fm i)
      have hcb : w12.cell? ⟨m, 11, none⟩ = some (.slice a t.C.length c) := (K12.out.cell m (11) lm nm).trans cl
      refine hA _ _ (G12) ?_
      try simp only [Act.put, List.setIfInBounds_toArray, List.set_cons_zero, List.set_cons_succ]
      clear A hA
      clear ho12 hg12 hb12 G12
      refine hd_quiet [false, false, false, false, false, false, false, false, false, false, true, true, false] (by kernel_rfl) ?_
      simp only [pickAt]
      repeat (go_big_quiet_step (fail))
      refine wpQuiet_nil ?_
      refine hd_tail rfl (by kernel_rfl) ?_
      simp only [List.drop_succ_cons, List.drop_zero]
      go_wp2
      refine NoPanic.normal ?_
      go_wp2
      go_ret
      obtain ⟨r1, r2⟩ := MW.out.setCred K12.out O12.out
      exact ⟨rfl, _, _, r1, (Kept.of_below BW.out).trans r2⟩
  · refine run_want rfl ?_
    intro A hA
    go_simp
    have R11 := Lib.hid (Rd.one (k := 11) W.drew #[.int .i64 x.kind, .int .i64 x.src, .int .i64 x.dst, .int .i64 x.prio, .int .u64 x.msg, .int .i64 x.off, .int .i64 x.len, .int .i64 x.total, .int .i64 x.num, .slice x.da x.dn x.dc, .int .i64 x.path] TX rfl)
    have K11 : Hid (Kept (Since W.heap.size) W (W.drew.alloc (.cells #[.int .i64 x.kind, .int .i64 x.src, .int .i64 x.dst, .int .i64 x.prio, .int .u64 x.msg, .int .i64 x.off, .int .i64 x.len, .int .i64 x.total, .int .i64 x.num, .slice x.da x.dn x.dc, .int .i64 x.path] TX))) := Lib.hid (((Kept.refl _ _).drewR).alloc _)
    refine hA _ _ ((Kept.refl _ _).alloc _) ?_
    try simp only [Act.put, List.setIfInBounds_toArray, List.set_cons_zero, List.set_cons_succ]
    clear A hA
    refine hd_act 1 rfl (by kernel_rfl) ?_
    refine run_want rfl ?_
    intro A hA
    go_simp
    have E2 : Hid (((W.drew.alloc (.cells #[.int .i64 x.kind, .int .i64 x.src, .int .i64 x.dst, .int .i64 x.prio, .int .u64 x.msg, .int .i64 x.off, .int .i64 x.len, .int .i64 x.total, .int .i64 x.num, .slice x.da x.dn x.dc, .int .i64 x.path] TX)).alloc (.cells #[] TX)).ownsRow W.heap.size TX 11 (.slice (some ⟨W.heap.size + 1, 0, none⟩) 0 0) 0 []) := Lib.hid (by
      have h0 := World.ownsRow_made (base := W.heap.size) (e := TX) (size := 11) (W.drew.alloc (.cells #[.int .i64 x.kind, .int .i64 x.src, .int .i64 x.dst, .int .i64 x.prio, .int .u64 x.msg, .int .i64 x.off, .int .i64 x.len, .int .i64 x.total, .int .i64 x.num, .slice x.da x.dn x.dc, .int .i64 x.path] TX)) #[] 0 (by rw [World.size_alloc]; exact Nat.le_succ _) (by decide) rfl
      rw [World.size_alloc] at h0
      exact h0)
    have R2 := Lib.hid (R11.out.kept ((Kept.refl (fun _ => False) _).alloc (.cells #[] TX)) (fun _ _ _ _ h => h))
    have K2' := Lib.hid (K11.out.alloc (.cells #[] TX))
    refine hA _ _ ((Kept.refl _ _).alloc _) ?_
    try simp only [Act.put, List.setIfInBounds_toArray, List.set_cons_zero, List.set_cons_succ]
    clear A hA
    refine hd_act 6 rfl (by kernel_rfl) ?_
    refine run_want rfl ?_
    intro A hA
    have hrd := hrdK _ K2'.out
    refine wp_appAt (.tmp 21) (.tmp 25) 103 (by rfl) info_x Try.underlying103 rfl (by decide) E2.out hrd (by rfl) (by rfl) (one_itrows _) (by omega) K2'.out.size ?_
    intro v9 w9 ho9 hg9 hb9
    rw [List.nil_append, Nat.zero_add] at ho9
    obtain ⟨a9, c9, rfl, _, _⟩ := (Rd.of_own ho9).form
    have G9 := Kept.of_grown (M := Since W.heap.size) hg9 fun y hy => (E2.out.lt y hy).1
    have K9 := Lib.hid (K2'.out.trans G9)
    have O9 := Lib.hid ho9
    have R9 := Lib.hid (R2.out.kept (M := Lm (.slice (some ⟨W.heap.size + 1, 0, none⟩) 0 0)) (Kept.of_grown hg9 fun y hy => hy) (fun a n c hv hh => by
      cases hv
      have h1 : W.heap.size + 1 = W.heap.size := Option.some.inj hh
      omega))
    refine hA _ _ (G9) ?_
    try simp only [Act.put, List.setIfInBounds_toArray, List.set_cons_zero, List.set_cons_succ]
    clear A hA
    clear ho9 hg9 hb9 G9 hrd
    refine hd_act 9 rfl (by kernel_rfl) ?_
    refine run_want rfl ?_
    intro A hA
    refine wp_appAt (.tmp 26) (.tmp 28) 103 (by rfl) info_x Try.underlying103 rfl (by decide) O9.out R9.out (by rfl) (by rfl) (by simp [Value.oneCell']) (by omega) K9.out.size ?_
    intro v12 w12 ho12 hg12 hb12
    obtain ⟨a12, c12, rfl, _, _⟩ := (Rd.of_own ho12).form
    have G12 := Kept.of_grown (M := Since W.heap.size) hg12 fun y hy => (O9.out.lt y hy).1
    have K12 := Lib.hid (K9.out.trans G12)
    have O12 : Hid (w12.ownsRow W.heap.size TX 11 (.slice a12 (t.C.length + 1) c12) (t.C ++ [x]).length ((t.C ++ [x]).flatMap It.row)) := Lib.hid (by simpa [It.row] using ho12)
    have hlb : m < w12.heap.size := Nat.lt_of_lt_of_le lm K12.out.size
    have hfb : ∀ i, w12.frozen? ⟨m, i, none⟩ = false := fun i => (K12.out.frozen m i lm nm).trans (fm i)
    have hcb : w12.cell? ⟨m, 11, none⟩ = some (.slice a t.C.length c) := (K12.out.cell m (11) lm nm).trans cl
    refine hA _ _ (G12) ?_
    try simp only [Act.put, List.setIfInBounds_toArray, List.set_cons_zero, List.set_cons_succ]
    clear A hA
    clear ho12 hg12 hb12 G12
    refine hd_quiet [false, false, false, false, false, false, false, false, false, false, true, true, false] (by kernel_rfl) ?_
    simp only [pickAt]
    repeat (go_big_quiet_step (fail))
    refine wpQuiet_nil ?_
    refine hd_tail rfl (by kernel_rfl) ?_
    simp only [List.drop_succ_cons, List.drop_zero]
    go_wp2
    refine NoPanic.normal ?_
    go_wp2
    go_ret
    obtain ⟨r1, r2⟩ := MW.out.setCred K12.out O12.out
    exact ⟨rfl, _, _, r1, (Kept.of_below BW.out).trans r2⟩
end Go.Proofs.Ytoihhidoafgoaaa
/- The document's port (chapter 13): Put of what is no credit. -/
namespace Go.Proofs.Ytoihhidoafgoaaa
open Go.RowKit

set_option maxRecDepth 100000 in
set_option maxHeartbeats 4000000 in
theorem mtrimmed (x : It) (w : World) : Calls Try.prog 86 #[x.frv] w fun e w' => e = .returned (x.hdr 0).frv ∧ Below w.heap.size w w' := by
  unfold It.frv
  go_enter Try.func86, Try.ntmps86
  go_upto_region 1 with fail
  have OX := Lib.hid ((Ob.new w #[.int .i64 x.kind, .int .i64 x.src, .int .i64 x.dst, .int .i64 x.prio, .int .u64 x.msg, .int .i64 x.off, .int .i64 x.len, .int .i64 x.total, .int .i64 x.num, .slice x.da x.dn x.dc] TFr).alloc (.cells #[.int .i64 0, .int .i64 0, .int .i64 0, .int .i64 0, .int .u64 0, .int .i64 0, .int .i64 0, .int .i64 0, .int .i64 0, .slice none 0 0] TFr))
  have OY := Lib.hid (Ob.new (w.alloc (.cells #[.int .i64 x.kind, .int .i64 x.src, .int .i64 x.dst, .int .i64 x.prio, .int .u64 x.msg, .int .i64 x.off, .int .i64 x.len, .int .i64 x.total, .int .i64 x.num, .slice x.da x.dn x.dc] TFr)) #[.int .i64 0, .int .i64 0, .int .i64 0, .int .i64 0, .int .u64 0, .int .i64 0, .int .i64 0, .int .i64 0, .int .i64 0, .slice none 0 0] TFr)
  have HB := Lib.hid (((Below.refl w.heap.size w).alloc (Nat.le_refl _) (.cells #[.int .i64 x.kind, .int .i64 x.src, .int .i64 x.dst, .int .i64 x.prio, .int .u64 x.msg, .int .i64 x.off, .int .i64 x.len, .int .i64 x.total, .int .i64 x.num, .slice x.da x.dn x.dc] TFr)).alloc (by rw [World.size_alloc]; omega) (.cells #[.int .i64 0, .int .i64 0, .int .i64 0, .int .i64 0, .int .u64 0, .int .i64 0, .int .i64 0, .int .i64 0, .int .i64 0, .slice none 0 0] TFr))
  rw [World.size_alloc] at OY
  generalize (w.alloc (.cells #[.int .i64 x.kind, .int .i64 x.src, .int .i64 x.dst, .int .i64 x.prio, .int .u64 x.msg, .int .i64 x.off, .int .i64 x.len, .int .i64 x.total, .int .i64 x.num, .slice x.da x.dn x.dc] TFr)).alloc (.cells #[.int .i64 0, .int .i64 0, .int .i64 0, .int .i64 0, .int .u64 0, .int .i64 0, .int .i64 0, .int .i64 0, .int .i64 0, .slice none 0 0] TFr) = w1 at *
  obtain ⟨X, HX⟩ : ∃ X, Hid (w.heap.size = X) := ⟨_, Lib.hid rfl⟩
  rw [HX.out] at OX OY ⊢
  obtain ⟨lx, cx, fx⟩ := OX.out.blk
  have cx0 : w1.cell? ⟨X, 0, none⟩ = some (.int .i64 x.kind) := cx 0
  have cx1 : w1.cell? ⟨X, 1, none⟩ = some (.int .i64 x.src) := cx 1
  have cx2 : w1.cell? ⟨X, 2, none⟩ = some (.int .i64 x.dst) := cx 2
  have cx3 : w1.cell? ⟨X, 3, none⟩ = some (.int .i64 x.prio) := cx 3
  have cx4 : w1.cell? ⟨X, 4, none⟩ = some (.int .u64 x.msg) := cx 4
  have cx5 : w1.cell? ⟨X, 5, none⟩ = some (.int .i64 x.off) := cx 5
  have cx6 : w1.cell? ⟨X, 6, none⟩ = some (.int .i64 x.len) := cx 6
  have cx7 : w1.cell? ⟨X, 7, none⟩ = some (.int .i64 x.total) := cx 7
  have cx8 : w1.cell? ⟨X, 8, none⟩ = some (.int .i64 x.num) := cx 8
  have cx9 : w1.cell? ⟨X, 9, none⟩ = some (.slice x.da x.dn x.dc) := cx 9
  clear cx
  have sX : w.heap.size ≤ X := Nat.le_of_eq HX.out
  go_upto_region 4 with fail
  have OX2 : Hid (Ob (((w1.setCell ⟨X, 0, none⟩ (.int .i64 7)).setCell ⟨X, 3, none⟩ (.int .i64 0)).setCell ⟨X, 9, none⟩ (.slice none 0 0)) X #[.int .i64 (x.hdr 0).kind, .int .i64 (x.hdr 0).src, .int .i64 (x.hdr 0).dst, .int .i64 (x.hdr 0).prio, .int .u64 (x.hdr 0).msg, .int .i64 (x.hdr 0).off, .int .i64 (x.hdr 0).len, .int .i64 (x.hdr 0).total, .int .i64 (x.hdr 0).num, .slice (x.hdr 0).da (x.hdr 0).dn (x.hdr 0).dc] TFr) := Lib.hid (Ob.cast (((OX.out.set 0 _).set 3 _).set 9 _) (by rfl))
  have OY2 := Lib.hid (((OY.out.other ⟨X, 0, none⟩ (.int .i64 7) (by show X + 1 ≠ X; omega)).other ⟨X, 3, none⟩ (.int .i64 0) (by show X + 1 ≠ X; omega)).other ⟨X, 9, none⟩ (.slice none 0 0) (by show X + 1 ≠ X; omega))
  have HB2 := Lib.hid (((HB.out.setCell (p := ⟨X, 0, none⟩) sX (.int .i64 7)).setCell (p := ⟨X, 3, none⟩) sX (.int .i64 0)).setCell (p := ⟨X, 9, none⟩) sX (.slice none 0 0))
  clear lx fx cx0 cx1 cx2 cx3 cx4 cx5 cx6 cx7 cx8 cx9
  generalize ((w1.setCell ⟨X, 0, none⟩ (.int .i64 7)).setCell ⟨X, 3, none⟩ (.int .i64 0)).setCell ⟨X, 9, none⟩ (.slice none 0 0) = w2 at *
  obtain ⟨y, HY⟩ : ∃ y, Hid (x.hdr 0 = y) := ⟨_, Lib.hid rfl⟩
  rw [HY.out] at OX2
  obtain ⟨lx, cx, fx⟩ := OX2.out.blk
  have cx0 : w2.cell? ⟨X, 0, none⟩ = some (.int .i64 y.kind) := cx 0
  have cx1 : w2.cell? ⟨X, 1, none⟩ = some (.int .i64 y.src) := cx 1
  have cx2 : w2.cell? ⟨X, 2, none⟩ = some (.int .i64 y.dst) := cx 2
  have cx3 : w2.cell? ⟨X, 3, none⟩ = some (.int .i64 y.prio) := cx 3
  have cx4 : w2.cell? ⟨X, 4, none⟩ = some (.int .u64 y.msg) := cx 4
  have cx5 : w2.cell? ⟨X, 5, none⟩ = some (.int .i64 y.off) := cx 5
  have cx6 : w2.cell? ⟨X, 6, none⟩ = some (.int .i64 y.len) := cx 6
  have cx7 : w2.cell? ⟨X, 7, none⟩ = some (.int .i64 y.total) := cx 7
  have cx8 : w2.cell? ⟨X, 8, none⟩ = some (.int .i64 y.num) := cx 8
  have cx9 : w2.cell? ⟨X, 9, none⟩ = some (.slice y.da y.dn y.dc) := cx 9
  clear cx
  obtain ⟨ly, cy, fy⟩ := OY2.out.blk
  have cy0 : w2.cell? ⟨X + 1, 0, none⟩ = some (.int .i64 0) := cy 0
  have cy1 : w2.cell? ⟨X + 1, 1, none⟩ = some (.int .i64 0) := cy 1
  have cy2 : w2.cell? ⟨X + 1, 2, none⟩ = some (.int .i64 0) := cy 2
  have cy3 : w2.cell? ⟨X + 1, 3, none⟩ = some (.int .i64 0) := cy 3
  have cy4 : w2.cell? ⟨X + 1, 4, none⟩ = some (.int .u64 0) := cy 4
  have cy5 : w2.cell? ⟨X + 1, 5, none⟩ = some (.int .i64 0) := cy 5
  have cy6 : w2.cell? ⟨X + 1, 6, none⟩ = some (.int .i64 0) := cy 6
  have cy7 : w2.cell? ⟨X + 1, 7, none⟩ = some (.int .i64 0) := cy 7
  have cy8 : w2.cell? ⟨X + 1, 8, none⟩ = some (.int .i64 0) := cy 8
  have cy9 : w2.cell? ⟨X + 1, 9, none⟩ = some (.slice none 0 0) := cy 9
  clear cy
  go_wp2_with fail
  have hw : ((((((((((w2.setCell ⟨X + 1, 0, none⟩ (.int .i64 y.kind)).setCell ⟨X + 1, 1, none⟩ (.int .i64 y.src)).setCell ⟨X + 1, 2, none⟩ (.int .i64 y.dst)).setCell ⟨X + 1, 3, none⟩ (.int .i64 y.prio)).setCell ⟨X + 1, 4, none⟩ (.int .u64 y.msg)).setCell ⟨X + 1, 5, none⟩ (.int .i64 y.off)).setCell ⟨X + 1, 6, none⟩ (.int .i64 y.len)).setCell ⟨X + 1, 7, none⟩ (.int .i64 y.total)).setCell ⟨X + 1, 8, none⟩ (.int .i64 y.num)).setCell ⟨X + 1, 9, none⟩ (.slice y.da y.dn y.dc)) = w2.setCells (X + 1) 0 [.int .i64 y.kind, .int .i64 y.src, .int .i64 y.dst, .int .i64 y.prio, .int .u64 y.msg, .int .i64 y.off, .int .i64 y.len, .int .i64 y.total, .int .i64 y.num, .slice y.da y.dn y.dc] := rfl
  rw [hw]
  clear hw
  have OF := Lib.hid (OY2.out.sets [.int .i64 y.kind, .int .i64 y.src, .int .i64 y.dst, .int .i64 y.prio, .int .u64 y.msg, .int .i64 y.off, .int .i64 y.len, .int .i64 y.total, .int .i64 y.num, .slice y.da y.dn y.dc] rfl)
  have HF := Lib.hid (Below.sets HB2.out (X := X + 1) (by omega) HB2.out.size [.int .i64 y.kind, .int .i64 y.src, .int .i64 y.dst, .int .i64 y.prio, .int .u64 y.msg, .int .i64 y.off, .int .i64 y.len, .int .i64 y.total, .int .i64 y.num, .slice y.da y.dn y.dc])
  clear lx fx cx0 cx1 cx2 cx3 cx4 cx5 cx6 cx7 cx8 cx9 ly fy cy0 cy1 cy2 cy3 cy4 cy5 cy6 cy7 cy8 cy9
  generalize w2.setCells (X + 1) 0 [.int .i64 y.kind, .int .i64 y.src, .int .i64 y.dst, .int .i64 y.prio, .int .u64 y.msg, .int .i64 y.off, .int .i64 y.len, .int .i64 y.total, .int .i64 y.num, .slice y.da y.dn y.dc] = F at *
  obtain ⟨lf, cf, ff⟩ := OF.out.blk
  have cf0 : F.cell? ⟨X + 1, 0, none⟩ = some (.int .i64 y.kind) := cf 0
  have cf1 : F.cell? ⟨X + 1, 1, none⟩ = some (.int .i64 y.src) := cf 1
  have cf2 : F.cell? ⟨X + 1, 2, none⟩ = some (.int .i64 y.dst) := cf 2
  have cf3 : F.cell? ⟨X + 1, 3, none⟩ = some (.int .i64 y.prio) := cf 3
  have cf4 : F.cell? ⟨X + 1, 4, none⟩ = some (.int .u64 y.msg) := cf 4
  have cf5 : F.cell? ⟨X + 1, 5, none⟩ = some (.int .i64 y.off) := cf 5
  have cf6 : F.cell? ⟨X + 1, 6, none⟩ = some (.int .i64 y.len) := cf 6
  have cf7 : F.cell? ⟨X + 1, 7, none⟩ = some (.int .i64 y.total) := cf 7
  have cf8 : F.cell? ⟨X + 1, 8, none⟩ = some (.int .i64 y.num) := cf 8
  have cf9 : F.cell? ⟨X + 1, 9, none⟩ = some (.slice y.da y.dn y.dc) := cf 9
  clear cf
  exact done y.frv rfl (by simp [It.frv, results, Try.results86, go_sem, cf0, cf1, cf2, cf3, cf4, cf5, cf6, cf7, cf8, cf9]) ⟨by rw [HY.out]; rfl, HX.out ▸ HF.out⟩
set_option maxRecDepth 100000 in
set_option maxHeartbeats 4000000 in
theorem mput_line (m : Nat) (U : Nat → Value) (uc : Value) (t : Mp) (N : Nat) (i : Nat) (x : It) (w : World) (h : Mo m U uc t w) (ho : t.ok N) (hN : N ≤ 100000) (hx : x.ok2) (hk : (x.kind == 11) = false) (hi : i < 8) (hp : clampI x.prio 0 7 = i) (hf : msum t.L 8 + x.bytes ≤ t.room) : Calls Try.prog 78 #[.pointer (some ⟨m, 0, none⟩), x.val] w fun e w' => e = .returned (.int .i64 1) ∧ MoPost m { t with L := upd t.L i (t.L i ++ [x]) } w w' := by
  have HI := Lib.hid hp
  have HO := Lib.hid ho
  have HXO := Lib.hid hx
  clear hp ho hx
  unfold It.val
  have HM := Lib.hid h
  clear h
  go_enter Try.func78, Try.ntmps78
  go_upto_region 1 with fail
  have OX := Lib.hid (Ob.new w #[.int .i64 x.kind, .int .i64 x.src, .int .i64 x.dst, .int .i64 x.prio, .int .u64 x.msg, .int .i64 x.off, .int .i64 x.len, .int .i64 x.total, .int .i64 x.num, .slice x.da x.dn x.dc, .int .i64 x.path] TX)
  have HB := Lib.hid ((Below.refl w.heap.size w).alloc (Nat.le_refl _) (.cells #[.int .i64 x.kind, .int .i64 x.src, .int .i64 x.dst, .int .i64 x.prio, .int .u64 x.msg, .int .i64 x.off, .int .i64 x.len, .int .i64 x.total, .int .i64 x.num, .slice x.da x.dn x.dc, .int .i64 x.path] TX))
  have M1 := Lib.hid (HM.out.below HB.out)
  generalize w.alloc (.cells #[.int .i64 x.kind, .int .i64 x.src, .int .i64 x.dst, .int .i64 x.prio, .int .u64 x.msg, .int .i64 x.off, .int .i64 x.len, .int .i64 x.total, .int .i64 x.num, .slice x.da x.dn x.dc, .int .i64 x.path] TX) = w1 at *
  obtain ⟨X, HX⟩ : ∃ X, Hid (w.heap.size = X) := ⟨_, Lib.hid rfl⟩
  rw [HX.out] at OX ⊢
  obtain ⟨lx, cx, fx⟩ := OX.out.blk
  have cx0 : w1.cell? ⟨X, 0, none⟩ = some (.int .i64 x.kind) := cx 0
  have cx1 : w1.cell? ⟨X, 1, none⟩ = some (.int .i64 x.src) := cx 1
  have cx2 : w1.cell? ⟨X, 2, none⟩ = some (.int .i64 x.dst) := cx 2
  have cx3 : w1.cell? ⟨X, 3, none⟩ = some (.int .i64 x.prio) := cx 3
  have cx4 : w1.cell? ⟨X, 4, none⟩ = some (.int .u64 x.msg) := cx 4
  have cx5 : w1.cell? ⟨X, 5, none⟩ = some (.int .i64 x.off) := cx 5
  have cx6 : w1.cell? ⟨X, 6, none⟩ = some (.int .i64 x.len) := cx 6
  have cx7 : w1.cell? ⟨X, 7, none⟩ = some (.int .i64 x.total) := cx 7
  have cx8 : w1.cell? ⟨X, 8, none⟩ = some (.int .i64 x.num) := cx 8
  have cx9 : w1.cell? ⟨X, 9, none⟩ = some (.slice x.da x.dn x.dc) := cx 9
  have cx10 : w1.cell? ⟨X, 10, none⟩ = some (.int .i64 x.path) := cx 10
  clear cx
  have lm := M1.out.ob.lt
  have fm := (M1.out.ob.blk).2.2
  have cm1 : w1.cell? ⟨m, 1, none⟩ = some (.int .i64 t.most) := (M1.out.ob.blk).2.1 1
  have cm2 : w1.cell? ⟨m, 2, none⟩ = some (.bool t.trim) := (M1.out.ob.blk).2.1 2
  obtain ⟨a, c, hv, hlc, hcm⟩ := M1.out.cr.form
  have HV := Lib.hid hv
  have cl : w1.cell? ⟨m, 11, none⟩ = some (.slice a t.C.length c) := by rw [← hv]; exact (M1.out.ob.blk).2.1 11
  clear hv
  have hXm : ¬ Only m X := fun hh => absurd (Ty.one (by rw [show X = m from hh] at OX; exact OX.out.ty) M1.out.ob.ty) (by decide)
  go_wp2_with fail
  refine wp_run (M := (Only m)) (stages [([true, true, true, true, false, true, false], 4), ([false, false, false, false, false, false, false], 6)] [false, false, false, false, false, false, false]) (by kernel_rfl) (by kernel_rfl) ?_
  refine run_stage rfl ?_
  simp only [pickAt]
  repeat (go_big_quiet_step (fail))
  refine wpQuiet_nil ?_
  refine run_want rfl ?_
  intro A hA
  go_simp
  refine (clamp_ref _ _ _ _).mono ?_
  rintro e w' ⟨rfl, rfl⟩
  rw [HI.out]
  refine hA _ _ ((Kept.refl _ _)) ?_
  try simp only [Act.put, List.setIfInBounds_toArray, List.set_cons_zero, List.set_cons_succ]
  clear A hA
  refine run_stage rfl ?_
  simp only [pickAt]
  repeat (go_big_quiet_step (fail))
  refine wpQuiet_nil ?_
  refine run_want rfl ?_
  intro A hA
  go_simp
  have hpu := mpush_yes m U uc t N i x w1.drew (M1.out.keptF (Kept.drew _ _)) HO.out hN HXO.out hi hf
  unfold It.val at hpu
  refine hpu.mono ?_
  rintro e w2 ⟨rfl, U2, uc2, hm2, hk2⟩
  have M2 := Lib.hid hm2
  have K2 := Lib.hid (((Kept.of_below (M := Only m) HB.out).drewR).trans hk2)
  refine hA _ _ (hk2) ?_
  try simp only [Act.put, List.setIfInBounds_toArray, List.set_cons_zero, List.set_cons_succ]
  clear A hA
  clear hm2 hk2 hpu
  refine run_last ?_
  simp only [pickAt]
  repeat (go_big_quiet_step (fail))
  refine wpQuiet_nil ?_
  go_wp2_with fail
  go_ret
  exact ⟨rfl, U2, uc2, M2.out, K2.out⟩
set_option maxRecDepth 100000 in
set_option maxHeartbeats 4000000 in
theorem mput_drop (m : Nat) (U : Nat → Value) (uc : Value) (t : Mp) (N : Nat) (i : Nat) (x : It) (w : World) (h : Mo m U uc t w) (ho : t.ok N) (hN : N ≤ 100000) (hx : x.ok2) (hk : (x.kind == 11) = false) (hp : clampI x.prio 0 7 = i) (hf : t.room < msum t.L 8 + x.bytes) (hd : t.trim = false ∨ (t.trim = true ∧ x.kind ≠ 1)) : Calls Try.prog 78 #[.pointer (some ⟨m, 0, none⟩), x.val] w fun e w' => e = .returned (.int .i64 3) ∧ Below w.heap.size w w' := by
  have HI := Lib.hid hp
  have HO := Lib.hid ho
  have HXO := Lib.hid hx
  have HD := Lib.hid hd
  clear hp ho hx hd
  unfold It.val
  have HM := Lib.hid h
  clear h
  go_enter Try.func78, Try.ntmps78
  go_upto_region 1 with fail
  have OX := Lib.hid (Ob.new w #[.int .i64 x.kind, .int .i64 x.src, .int .i64 x.dst, .int .i64 x.prio, .int .u64 x.msg, .int .i64 x.off, .int .i64 x.len, .int .i64 x.total, .int .i64 x.num, .slice x.da x.dn x.dc, .int .i64 x.path] TX)
  have HB := Lib.hid ((Below.refl w.heap.size w).alloc (Nat.le_refl _) (.cells #[.int .i64 x.kind, .int .i64 x.src, .int .i64 x.dst, .int .i64 x.prio, .int .u64 x.msg, .int .i64 x.off, .int .i64 x.len, .int .i64 x.total, .int .i64 x.num, .slice x.da x.dn x.dc, .int .i64 x.path] TX))
  have M1 := Lib.hid (HM.out.below HB.out)
  generalize w.alloc (.cells #[.int .i64 x.kind, .int .i64 x.src, .int .i64 x.dst, .int .i64 x.prio, .int .u64 x.msg, .int .i64 x.off, .int .i64 x.len, .int .i64 x.total, .int .i64 x.num, .slice x.da x.dn x.dc, .int .i64 x.path] TX) = w1 at *
  obtain ⟨X, HX⟩ : ∃ X, Hid (w.heap.size = X) := ⟨_, Lib.hid rfl⟩
  rw [HX.out] at OX ⊢
  obtain ⟨lx, cx, fx⟩ := OX.out.blk
  have cx0 : w1.cell? ⟨X, 0, none⟩ = some (.int .i64 x.kind) := cx 0
  have cx1 : w1.cell? ⟨X, 1, none⟩ = some (.int .i64 x.src) := cx 1
  have cx2 : w1.cell? ⟨X, 2, none⟩ = some (.int .i64 x.dst) := cx 2
  have cx3 : w1.cell? ⟨X, 3, none⟩ = some (.int .i64 x.prio) := cx 3
  have cx4 : w1.cell? ⟨X, 4, none⟩ = some (.int .u64 x.msg) := cx 4
  have cx5 : w1.cell? ⟨X, 5, none⟩ = some (.int .i64 x.off) := cx 5
  have cx6 : w1.cell? ⟨X, 6, none⟩ = some (.int .i64 x.len) := cx 6
  have cx7 : w1.cell? ⟨X, 7, none⟩ = some (.int .i64 x.total) := cx 7
  have cx8 : w1.cell? ⟨X, 8, none⟩ = some (.int .i64 x.num) := cx 8
  have cx9 : w1.cell? ⟨X, 9, none⟩ = some (.slice x.da x.dn x.dc) := cx 9
  have cx10 : w1.cell? ⟨X, 10, none⟩ = some (.int .i64 x.path) := cx 10
  clear cx
  have lm := M1.out.ob.lt
  have fm := (M1.out.ob.blk).2.2
  have cm1 : w1.cell? ⟨m, 1, none⟩ = some (.int .i64 t.most) := (M1.out.ob.blk).2.1 1
  have cm2 : w1.cell? ⟨m, 2, none⟩ = some (.bool t.trim) := (M1.out.ob.blk).2.1 2
  obtain ⟨a, c, hv, hlc, hcm⟩ := M1.out.cr.form
  have HV := Lib.hid hv
  have cl : w1.cell? ⟨m, 11, none⟩ = some (.slice a t.C.length c) := by rw [← hv]; exact (M1.out.ob.blk).2.1 11
  clear hv
  go_wp2_with fail
  refine wp_run (M := (fun _ => False)) (stages [([true, true, true, true, false, true, false], 4), ([false, false, false, false, false, false, false], 6)] [false, false, false, false, false, false, false]) (by kernel_rfl) (by kernel_rfl) ?_
  refine run_stage rfl ?_
  simp only [pickAt]
  repeat (go_big_quiet_step (fail))
  refine wpQuiet_nil ?_
  refine run_want rfl ?_
  intro A hA
  go_simp
  refine (clamp_ref _ _ _ _).mono ?_
  rintro e w' ⟨rfl, rfl⟩
  rw [HI.out]
  refine hA _ _ ((Kept.refl _ _)) ?_
  try simp only [Act.put, List.setIfInBounds_toArray, List.set_cons_zero, List.set_cons_succ]
  clear A hA
  refine run_stage rfl ?_
  simp only [pickAt]
  repeat (go_big_quiet_step (fail))
  refine wpQuiet_nil ?_
  refine run_want rfl ?_
  intro A hA
  go_simp
  have hpu := mpush_no m U uc t N i x w1.drew (M1.out.keptF (Kept.drew _ _)) HO.out hN HXO.out hf
  unfold It.val at hpu
  refine hpu.mono ?_
  rintro e w2 ⟨rfl, hb2⟩
  have K2 : Hid (Kept (fun _ => False) w1 w2) := Lib.hid ((Kept.drew _ w1).trans (Kept.of_below hb2))
  have M2 := Lib.hid (M1.out.keptF K2.out)
  have OX2 := Lib.hid (OX.out.kept K2.out (fun h => h))
  have B2 := Lib.hid (HB.out.trans (K2.out.below.mono HB.out.size))
  refine hA _ _ (Kept.of_below hb2) ?_
  try simp only [Act.put, List.setIfInBounds_toArray, List.set_cons_zero, List.set_cons_succ]
  clear A hA
  clear hb2 hpu lx fx cx0 cx1 cx2 cx3 cx4 cx5 cx6 cx7 cx8 cx9 cx10 lm fm cm1 cm2 cl
  refine run_last ?_
  simp only [pickAt]
  repeat (go_big_quiet_step (fail))
  refine wpQuiet_nil ?_
  obtain ⟨lx, cx, fx⟩ := OX2.out.blk
  have cx0 : w2.cell? ⟨X, 0, none⟩ = some (.int .i64 x.kind) := cx 0
  have cx1 : w2.cell? ⟨X, 1, none⟩ = some (.int .i64 x.src) := cx 1
  have cx2 : w2.cell? ⟨X, 2, none⟩ = some (.int .i64 x.dst) := cx 2
  have cx3 : w2.cell? ⟨X, 3, none⟩ = some (.int .i64 x.prio) := cx 3
  have cx4 : w2.cell? ⟨X, 4, none⟩ = some (.int .u64 x.msg) := cx 4
  have cx5 : w2.cell? ⟨X, 5, none⟩ = some (.int .i64 x.off) := cx 5
  have cx6 : w2.cell? ⟨X, 6, none⟩ = some (.int .i64 x.len) := cx 6
  have cx7 : w2.cell? ⟨X, 7, none⟩ = some (.int .i64 x.total) := cx 7
  have cx8 : w2.cell? ⟨X, 8, none⟩ = some (.int .i64 x.num) := cx 8
  have cx9 : w2.cell? ⟨X, 9, none⟩ = some (.slice x.da x.dn x.dc) := cx 9
  have cx10 : w2.cell? ⟨X, 10, none⟩ = some (.int .i64 x.path) := cx 10
  clear cx
  have lm := M2.out.ob.lt
  have cm2 : w2.cell? ⟨m, 2, none⟩ = some (.bool t.trim) := (M2.out.ob.blk).2.1 2
  rcases HD.out with hd | ⟨hd, hd2⟩
  · rw [hd] at cm2
    go_wp2_with fail
    go_ret
    exact ⟨rfl, HX.out ▸ B2.out⟩
  · rw [hd] at cm2
    go_wp2_with fail
    go_ret
    exact ⟨rfl, HX.out ▸ B2.out⟩
set_option maxRecDepth 100000 in
set_option maxHeartbeats 4000000 in
theorem mput_trim (m : Nat) (U : Nat → Value) (uc : Value) (t : Mp) (N : Nat) (i : Nat) (x : It) (w : World) (h : Mo m U uc t w) (ho : t.ok N) (hN : N ≤ 100000) (hx : x.ok2) (hk : (x.kind == 11) = false) (hp : clampI x.prio 0 7 = i) (hf : t.room < msum t.L 8 + x.bytes) (ht : t.trim = true) (hk1 : x.kind = 1) (hf2 : msum t.L 8 + 26 ≤ t.room) : Calls Try.prog 78 #[.pointer (some ⟨m, 0, none⟩), x.val] w fun e w' => e = .returned (.int .i64 2) ∧ MoPost m { t with L := upd t.L 7 (t.L 7 ++ [x.hdr 7]) } w w' := by
  have HI := Lib.hid hp
  have HO := Lib.hid ho
  have HXO := Lib.hid hx
  have HK1 := Lib.hid hk1
  clear hp ho hx hk1
  unfold It.val
  have HM := Lib.hid h
  clear h
  go_enter Try.func78, Try.ntmps78
  go_upto_region 1 with fail
  have OX := Lib.hid (Ob.new w #[.int .i64 x.kind, .int .i64 x.src, .int .i64 x.dst, .int .i64 x.prio, .int .u64 x.msg, .int .i64 x.off, .int .i64 x.len, .int .i64 x.total, .int .i64 x.num, .slice x.da x.dn x.dc, .int .i64 x.path] TX)
  have HB := Lib.hid ((Below.refl w.heap.size w).alloc (Nat.le_refl _) (.cells #[.int .i64 x.kind, .int .i64 x.src, .int .i64 x.dst, .int .i64 x.prio, .int .u64 x.msg, .int .i64 x.off, .int .i64 x.len, .int .i64 x.total, .int .i64 x.num, .slice x.da x.dn x.dc, .int .i64 x.path] TX))
  have M1 := Lib.hid (HM.out.below HB.out)
  generalize w.alloc (.cells #[.int .i64 x.kind, .int .i64 x.src, .int .i64 x.dst, .int .i64 x.prio, .int .u64 x.msg, .int .i64 x.off, .int .i64 x.len, .int .i64 x.total, .int .i64 x.num, .slice x.da x.dn x.dc, .int .i64 x.path] TX) = w1 at *
  obtain ⟨X, HX⟩ : ∃ X, Hid (w.heap.size = X) := ⟨_, Lib.hid rfl⟩
  rw [HX.out] at OX ⊢
  obtain ⟨lx, cx, fx⟩ := OX.out.blk
  have cx0 : w1.cell? ⟨X, 0, none⟩ = some (.int .i64 x.kind) := cx 0
  have cx1 : w1.cell? ⟨X, 1, none⟩ = some (.int .i64 x.src) := cx 1
  have cx2 : w1.cell? ⟨X, 2, none⟩ = some (.int .i64 x.dst) := cx 2
  have cx3 : w1.cell? ⟨X, 3, none⟩ = some (.int .i64 x.prio) := cx 3
  have cx4 : w1.cell? ⟨X, 4, none⟩ = some (.int .u64 x.msg) := cx 4
  have cx5 : w1.cell? ⟨X, 5, none⟩ = some (.int .i64 x.off) := cx 5
  have cx6 : w1.cell? ⟨X, 6, none⟩ = some (.int .i64 x.len) := cx 6
  have cx7 : w1.cell? ⟨X, 7, none⟩ = some (.int .i64 x.total) := cx 7
  have cx8 : w1.cell? ⟨X, 8, none⟩ = some (.int .i64 x.num) := cx 8
  have cx9 : w1.cell? ⟨X, 9, none⟩ = some (.slice x.da x.dn x.dc) := cx 9
  have cx10 : w1.cell? ⟨X, 10, none⟩ = some (.int .i64 x.path) := cx 10
  clear cx
  have lm := M1.out.ob.lt
  have fm := (M1.out.ob.blk).2.2
  have cm1 : w1.cell? ⟨m, 1, none⟩ = some (.int .i64 t.most) := (M1.out.ob.blk).2.1 1
  have cm2 : w1.cell? ⟨m, 2, none⟩ = some (.bool t.trim) := (M1.out.ob.blk).2.1 2
  obtain ⟨a, c, hv, hlc, hcm⟩ := M1.out.cr.form
  have HV := Lib.hid hv
  have cl : w1.cell? ⟨m, 11, none⟩ = some (.slice a t.C.length c) := by rw [← hv]; exact (M1.out.ob.blk).2.1 11
  clear hv
  go_wp2_with fail
  refine wp_run (M := (fun _ => False)) (stages [([true, true, true, true, false, true, false], 4), ([false, false, false, false, false, false, false], 6)] [false, false, false, false, false, false, false]) (by kernel_rfl) (by kernel_rfl) ?_
  refine run_stage rfl ?_
  simp only [pickAt]
  repeat (go_big_quiet_step (fail))
  refine wpQuiet_nil ?_
  refine run_want rfl ?_
  intro A hA
  go_simp
  refine (clamp_ref _ _ _ _).mono ?_
  rintro e w' ⟨rfl, rfl⟩
  rw [HI.out]
  refine hA _ _ ((Kept.refl _ _)) ?_
  try simp only [Act.put, List.setIfInBounds_toArray, List.set_cons_zero, List.set_cons_succ]
  clear A hA
  refine run_stage rfl ?_
  simp only [pickAt]
  repeat (go_big_quiet_step (fail))
  refine wpQuiet_nil ?_
  refine run_want rfl ?_
  intro A hA
  go_simp
  have hpu := mpush_no m U uc t N i x w1.drew (M1.out.keptF (Kept.drew _ _)) HO.out hN HXO.out hf
  unfold It.val at hpu
  refine hpu.mono ?_
  rintro e w2 ⟨rfl, hb2⟩
  have K2 : Hid (Kept (fun _ => False) w1 w2) := Lib.hid ((Kept.drew _ w1).trans (Kept.of_below hb2))
  have M2 := Lib.hid (M1.out.keptF K2.out)
  have OX2 := Lib.hid (OX.out.kept K2.out (fun h => h))
  have B2 := Lib.hid (HB.out.trans (K2.out.below.mono HB.out.size))
  refine hA _ _ (Kept.of_below hb2) ?_
  try simp only [Act.put, List.setIfInBounds_toArray, List.set_cons_zero, List.set_cons_succ]
  clear A hA
  clear hb2 hpu lx fx cx0 cx1 cx2 cx3 cx4 cx5 cx6 cx7 cx8 cx9 cx10 lm fm cm1 cm2 cl
  refine run_last ?_
  simp only [pickAt]
  repeat (go_big_quiet_step (fail))
  refine wpQuiet_nil ?_
  obtain ⟨lx, cx, fx⟩ := OX2.out.blk
  have cx0 : w2.cell? ⟨X, 0, none⟩ = some (.int .i64 x.kind) := cx 0
  have cx1 : w2.cell? ⟨X, 1, none⟩ = some (.int .i64 x.src) := cx 1
  have cx2 : w2.cell? ⟨X, 2, none⟩ = some (.int .i64 x.dst) := cx 2
  have cx3 : w2.cell? ⟨X, 3, none⟩ = some (.int .i64 x.prio) := cx 3
  have cx4 : w2.cell? ⟨X, 4, none⟩ = some (.int .u64 x.msg) := cx 4
  have cx5 : w2.cell? ⟨X, 5, none⟩ = some (.int .i64 x.off) := cx 5
  have cx6 : w2.cell? ⟨X, 6, none⟩ = some (.int .i64 x.len) := cx 6
  have cx7 : w2.cell? ⟨X, 7, none⟩ = some (.int .i64 x.total) := cx 7
  have cx8 : w2.cell? ⟨X, 8, none⟩ = some (.int .i64 x.num) := cx 8
  have cx9 : w2.cell? ⟨X, 9, none⟩ = some (.slice x.da x.dn x.dc) := cx 9
  have cx10 : w2.cell? ⟨X, 10, none⟩ = some (.int .i64 x.path) := cx 10
  clear cx
  have lm := M2.out.ob.lt
  have cm2 : w2.cell? ⟨m, 2, none⟩ = some (.bool t.trim) := (M2.out.ob.blk).2.1 2
  rw [ht] at cm2
  have hk1 : x.kind = 1 := HK1.out
  go_upto_region 10 with fail
  clear hk1 cm2
  have htr := mtrimmed x w2
  unfold It.frv at htr
  go_wp2_with fail
  refine (htr).mono ?_
  rintro e w3 ⟨rfl, hb3⟩
  have M3 := Lib.hid (M2.out.below hb3)
  have OX3 := Lib.hid (OX2.out.below hb3)
  have B3 := Lib.hid (B2.out.trans (hb3.mono B2.out.size))
  clear hb3 htr lx fx cx0 cx1 cx2 cx3 cx4 cx5 cx6 cx7 cx8 cx9 cx10 lm
  obtain ⟨y0, HY0⟩ : ∃ y, Hid (x.hdr 0 = y) := ⟨_, Lib.hid rfl⟩
  rw [HY0.out]
  go_upto_region 11 with fail
  have OZ := Lib.hid (Ob.new w3 #[.int .i64 y0.kind, .int .i64 y0.src, .int .i64 y0.dst, .int .i64 y0.prio, .int .u64 y0.msg, .int .i64 y0.off, .int .i64 y0.len, .int .i64 y0.total, .int .i64 y0.num, .slice y0.da y0.dn y0.dc] TFr)
  have KA : Hid (Below w3.heap.size w3 (w3.alloc (.cells #[.int .i64 y0.kind, .int .i64 y0.src, .int .i64 y0.dst, .int .i64 y0.prio, .int .u64 y0.msg, .int .i64 y0.off, .int .i64 y0.len, .int .i64 y0.total, .int .i64 y0.num, .slice y0.da y0.dn y0.dc] TFr))) := Lib.hid ((Below.refl _ w3).alloc (Nat.le_refl _) _)
  have M4 := Lib.hid (M3.out.below KA.out)
  have OX4 := Lib.hid (OX3.out.below KA.out)
  have B4 := Lib.hid (B3.out.trans (KA.out.mono B3.out.size))
  have lX3 := OX3.out.lt
  obtain ⟨Z, HZ⟩ : ∃ Z, Hid (w3.heap.size = Z) := ⟨_, Lib.hid rfl⟩
  rw [HZ.out] at OZ ⊢
  clear KA
  generalize w3.alloc (.cells #[.int .i64 y0.kind, .int .i64 y0.src, .int .i64 y0.dst, .int .i64 y0.prio, .int .u64 y0.msg, .int .i64 y0.off, .int .i64 y0.len, .int .i64 y0.total, .int .i64 y0.num, .slice y0.da y0.dn y0.dc] TFr) = w4 at *
  obtain ⟨lz, cz, fz⟩ := OZ.out.blk
  have cz0 : w4.cell? ⟨Z, 0, none⟩ = some (.int .i64 y0.kind) := cz 0
  have cz1 : w4.cell? ⟨Z, 1, none⟩ = some (.int .i64 y0.src) := cz 1
  have cz2 : w4.cell? ⟨Z, 2, none⟩ = some (.int .i64 y0.dst) := cz 2
  have cz3 : w4.cell? ⟨Z, 3, none⟩ = some (.int .i64 y0.prio) := cz 3
  have cz4 : w4.cell? ⟨Z, 4, none⟩ = some (.int .u64 y0.msg) := cz 4
  have cz5 : w4.cell? ⟨Z, 5, none⟩ = some (.int .i64 y0.off) := cz 5
  have cz6 : w4.cell? ⟨Z, 6, none⟩ = some (.int .i64 y0.len) := cz 6
  have cz7 : w4.cell? ⟨Z, 7, none⟩ = some (.int .i64 y0.total) := cz 7
  have cz8 : w4.cell? ⟨Z, 8, none⟩ = some (.int .i64 y0.num) := cz 8
  have cz9 : w4.cell? ⟨Z, 9, none⟩ = some (.slice y0.da y0.dn y0.dc) := cz 9
  clear cz
  go_upto_region 12 with fail
  have hXZ : X ≠ Z := by have := HZ.out; omega
  have hmZ : ¬ Only Z m := fun hh => absurd (Ty.one (by rw [show m = Z from hh] at M4; exact M4.out.ob.ty) OZ.out.ty) (by decide)
  have OZ5 : Hid (Ob (w4.setCell ⟨Z, 3, none⟩ (.int .i64 7)) Z #[.int .i64 (x.hdr 7).kind, .int .i64 (x.hdr 7).src, .int .i64 (x.hdr 7).dst, .int .i64 (x.hdr 7).prio, .int .u64 (x.hdr 7).msg, .int .i64 (x.hdr 7).off, .int .i64 (x.hdr 7).len, .int .i64 (x.hdr 7).total, .int .i64 (x.hdr 7).num, .slice (x.hdr 7).da (x.hdr 7).dn (x.hdr 7).dc] TFr) := Lib.hid (by
    refine Ob.cast (OZ.out.set 3 _) ?_
    rw [← HY0.out]
    rfl)
  have OX5 := Lib.hid (OX4.out.other ⟨Z, 3, none⟩ (.int .i64 7) hXZ)
  have M5 := Lib.hid (M4.out.kept (Kept.setO (b := Z) (i := 3) (v := .int .i64 7) (Kept.refl (Only Z) w4)) hmZ (fun g hg _ => ⟨TFr, by rw [show g = Z from hg]; exact OZ.out.ty, by decide⟩))
  have B5 := Lib.hid (B4.out.setCell (p := ⟨Z, 3, none⟩) (show w.heap.size ≤ Z by have := HZ.out; have := HX.out; omega) (.int .i64 7))
  clear lz fz cz0 cz1 cz2 cz3 cz4 cz5 cz6 cz7 cz8 cz9
  generalize w4.setCell ⟨Z, 3, none⟩ (.int .i64 7) = w5 at *
  obtain ⟨y, HY⟩ : ∃ y, Hid (x.hdr 7 = y) := ⟨_, Lib.hid rfl⟩
  rw [HY.out] at OZ5
  have HYP : Hid (y.path = x.path) := Lib.hid (by rw [← HY.out]; rfl)
  obtain ⟨lz, cz, fz⟩ := OZ5.out.blk
  have cz0 : w5.cell? ⟨Z, 0, none⟩ = some (.int .i64 y.kind) := cz 0
  have cz1 : w5.cell? ⟨Z, 1, none⟩ = some (.int .i64 y.src) := cz 1
  have cz2 : w5.cell? ⟨Z, 2, none⟩ = some (.int .i64 y.dst) := cz 2
  have cz3 : w5.cell? ⟨Z, 3, none⟩ = some (.int .i64 y.prio) := cz 3
  have cz4 : w5.cell? ⟨Z, 4, none⟩ = some (.int .u64 y.msg) := cz 4
  have cz5 : w5.cell? ⟨Z, 5, none⟩ = some (.int .i64 y.off) := cz 5
  have cz6 : w5.cell? ⟨Z, 6, none⟩ = some (.int .i64 y.len) := cz 6
  have cz7 : w5.cell? ⟨Z, 7, none⟩ = some (.int .i64 y.total) := cz 7
  have cz8 : w5.cell? ⟨Z, 8, none⟩ = some (.int .i64 y.num) := cz 8
  have cz9 : w5.cell? ⟨Z, 9, none⟩ = some (.slice y.da y.dn y.dc) := cz 9
  clear cz
  have lX := OX5.out.lt
  have cX10 : w5.cell? ⟨X, 10, none⟩ = some (.int .i64 y.path) := by rw [HYP.out]; exact (OX5.out.blk).2.1 10
  have HYO : Hid (y.ok2) := Lib.hid (by rw [← HY.out]; exact ⟨Nat.zero_le _, HXO.out.len⟩)
  have HYB : Hid (y.bytes = 26) := Lib.hid (by rw [← HY.out]; rfl)
  have hpu := mpush_yes m U uc t N 7 y w5 M5.out HO.out hN HYO.out (by decide) (by rw [HYB.out]; exact hf2)
  unfold It.val at hpu
  go_wp2_with fail
  refine (hpu).mono ?_
  rintro e w6 ⟨rfl, U6, uc6, hm6, hk6⟩
  have M6 := Lib.hid hm6
  have K6 := Lib.hid ((Kept.of_below (M := Only m) B5.out).trans hk6)
  clear hm6 hk6 hpu
  go_wp2_with fail
  go_ret
  exact ⟨rfl, U6, uc6, by rw [HY.out]; exact M6.out, K6.out⟩
set_option maxRecDepth 100000 in
set_option maxHeartbeats 4000000 in
theorem mput_trimno (m : Nat) (U : Nat → Value) (uc : Value) (t : Mp) (N : Nat) (i : Nat) (x : It) (w : World) (h : Mo m U uc t w) (ho : t.ok N) (hN : N ≤ 100000) (hx : x.ok2) (hk : (x.kind == 11) = false) (hp : clampI x.prio 0 7 = i) (hf : t.room < msum t.L 8 + x.bytes) (ht : t.trim = true) (hk1 : x.kind = 1) (hf2 : t.room < msum t.L 8 + 26) : Calls Try.prog 78 #[.pointer (some ⟨m, 0, none⟩), x.val] w fun e w' => e = .returned (.int .i64 3) ∧ Below w.heap.size w w' := by
  have HI := Lib.hid hp
  have HO := Lib.hid ho
  have HXO := Lib.hid hx
  have HK1 := Lib.hid hk1
  clear hp ho hx hk1
  unfold It.val
  have HM := Lib.hid h
  clear h
  go_enter Try.func78, Try.ntmps78
  go_upto_region 1 with fail
  have OX := Lib.hid (Ob.new w #[.int .i64 x.kind, .int .i64 x.src, .int .i64 x.dst, .int .i64 x.prio, .int .u64 x.msg, .int .i64 x.off, .int .i64 x.len, .int .i64 x.total, .int .i64 x.num, .slice x.da x.dn x.dc, .int .i64 x.path] TX)
  have HB := Lib.hid ((Below.refl w.heap.size w).alloc (Nat.le_refl _) (.cells #[.int .i64 x.kind, .int .i64 x.src, .int .i64 x.dst, .int .i64 x.prio, .int .u64 x.msg, .int .i64 x.off, .int .i64 x.len, .int .i64 x.total, .int .i64 x.num, .slice x.da x.dn x.dc, .int .i64 x.path] TX))
  have M1 := Lib.hid (HM.out.below HB.out)
  generalize w.alloc (.cells #[.int .i64 x.kind, .int .i64 x.src, .int .i64 x.dst, .int .i64 x.prio, .int .u64 x.msg, .int .i64 x.off, .int .i64 x.len, .int .i64 x.total, .int .i64 x.num, .slice x.da x.dn x.dc, .int .i64 x.path] TX) = w1 at *
  obtain ⟨X, HX⟩ : ∃ X, Hid (w.heap.size = X) := ⟨_, Lib.hid rfl⟩
  rw [HX.out] at OX ⊢
  obtain ⟨lx, cx, fx⟩ := OX.out.blk
  have cx0 : w1.cell? ⟨X, 0, none⟩ = some (.int .i64 x.kind) := cx 0
  have cx1 : w1.cell? ⟨X, 1, none⟩ = some (.int .i64 x.src) := cx 1
  have cx2 : w1.cell? ⟨X, 2, none⟩ = some (.int .i64 x.dst) := cx 2
  have cx3 : w1.cell? ⟨X, 3, none⟩ = some (.int .i64 x.prio) := cx 3
  have cx4 : w1.cell? ⟨X, 4, none⟩ = some (.int .u64 x.msg) := cx 4
  have cx5 : w1.cell? ⟨X, 5, none⟩ = some (.int .i64 x.off) := cx 5
  have cx6 : w1.cell? ⟨X, 6, none⟩ = some (.int .i64 x.len) := cx 6
  have cx7 : w1.cell? ⟨X, 7, none⟩ = some (.int .i64 x.total) := cx 7
  have cx8 : w1.cell? ⟨X, 8, none⟩ = some (.int .i64 x.num) := cx 8
  have cx9 : w1.cell? ⟨X, 9, none⟩ = some (.slice x.da x.dn x.dc) := cx 9
  have cx10 : w1.cell? ⟨X, 10, none⟩ = some (.int .i64 x.path) := cx 10
  clear cx
  have lm := M1.out.ob.lt
  have fm := (M1.out.ob.blk).2.2
  have cm1 : w1.cell? ⟨m, 1, none⟩ = some (.int .i64 t.most) := (M1.out.ob.blk).2.1 1
  have cm2 : w1.cell? ⟨m, 2, none⟩ = some (.bool t.trim) := (M1.out.ob.blk).2.1 2
  obtain ⟨a, c, hv, hlc, hcm⟩ := M1.out.cr.form
  have HV := Lib.hid hv
  have cl : w1.cell? ⟨m, 11, none⟩ = some (.slice a t.C.length c) := by rw [← hv]; exact (M1.out.ob.blk).2.1 11
  clear hv
  go_wp2_with fail
  refine wp_run (M := (fun _ => False)) (stages [([true, true, true, true, false, true, false], 4), ([false, false, false, false, false, false, false], 6)] [false, false, false, false, false, false, false]) (by kernel_rfl) (by kernel_rfl) ?_
  refine run_stage rfl ?_
  simp only [pickAt]
  repeat (go_big_quiet_step (fail))
  refine wpQuiet_nil ?_
  refine run_want rfl ?_
  intro A hA
  go_simp
  refine (clamp_ref _ _ _ _).mono ?_
  rintro e w' ⟨rfl, rfl⟩
  rw [HI.out]
  refine hA _ _ ((Kept.refl _ _)) ?_
  try simp only [Act.put, List.setIfInBounds_toArray, List.set_cons_zero, List.set_cons_succ]
  clear A hA
  refine run_stage rfl ?_
  simp only [pickAt]
  repeat (go_big_quiet_step (fail))
  refine wpQuiet_nil ?_
  refine run_want rfl ?_
  intro A hA
  go_simp
  have hpu := mpush_no m U uc t N i x w1.drew (M1.out.keptF (Kept.drew _ _)) HO.out hN HXO.out hf
  unfold It.val at hpu
  refine hpu.mono ?_
  rintro e w2 ⟨rfl, hb2⟩
  have K2 : Hid (Kept (fun _ => False) w1 w2) := Lib.hid ((Kept.drew _ w1).trans (Kept.of_below hb2))
  have M2 := Lib.hid (M1.out.keptF K2.out)
  have OX2 := Lib.hid (OX.out.kept K2.out (fun h => h))
  have B2 := Lib.hid (HB.out.trans (K2.out.below.mono HB.out.size))
  refine hA _ _ (Kept.of_below hb2) ?_
  try simp only [Act.put, List.setIfInBounds_toArray, List.set_cons_zero, List.set_cons_succ]
  clear A hA
  clear hb2 hpu lx fx cx0 cx1 cx2 cx3 cx4 cx5 cx6 cx7 cx8 cx9 cx10 lm fm cm1 cm2 cl
  refine run_last ?_
  simp only [pickAt]
  repeat (go_big_quiet_step (fail))
  refine wpQuiet_nil ?_
  obtain ⟨lx, cx, fx⟩ := OX2.out.blk
  have cx0 : w2.cell? ⟨X, 0, none⟩ = some (.int .i64 x.kind) := cx 0
  have cx1 : w2.cell? ⟨X, 1, none⟩ = some (.int .i64 x.src) := cx 1
  have cx2 : w2.cell? ⟨X, 2, none⟩ = some (.int .i64 x.dst) := cx 2
  have cx3 : w2.cell? ⟨X, 3, none⟩ = some (.int .i64 x.prio) := cx 3
  have cx4 : w2.cell? ⟨X, 4, none⟩ = some (.int .u64 x.msg) := cx 4
  have cx5 : w2.cell? ⟨X, 5, none⟩ = some (.int .i64 x.off) := cx 5
  have cx6 : w2.cell? ⟨X, 6, none⟩ = some (.int .i64 x.len) := cx 6
  have cx7 : w2.cell? ⟨X, 7, none⟩ = some (.int .i64 x.total) := cx 7
  have cx8 : w2.cell? ⟨X, 8, none⟩ = some (.int .i64 x.num) := cx 8
  have cx9 : w2.cell? ⟨X, 9, none⟩ = some (.slice x.da x.dn x.dc) := cx 9
  have cx10 : w2.cell? ⟨X, 10, none⟩ = some (.int .i64 x.path) := cx 10
  clear cx
  have lm := M2.out.ob.lt
  have cm2 : w2.cell? ⟨m, 2, none⟩ = some (.bool t.trim) := (M2.out.ob.blk).2.1 2
  rw [ht] at cm2
  have hk1 : x.kind = 1 := HK1.out
  go_upto_region 10 with fail
  clear hk1 cm2
  have htr := mtrimmed x w2
  unfold It.frv at htr
  go_wp2_with fail
  refine (htr).mono ?_
  rintro e w3 ⟨rfl, hb3⟩
  have M3 := Lib.hid (M2.out.below hb3)
  have OX3 := Lib.hid (OX2.out.below hb3)
  have B3 := Lib.hid (B2.out.trans (hb3.mono B2.out.size))
  clear hb3 htr lx fx cx0 cx1 cx2 cx3 cx4 cx5 cx6 cx7 cx8 cx9 cx10 lm
  obtain ⟨y0, HY0⟩ : ∃ y, Hid (x.hdr 0 = y) := ⟨_, Lib.hid rfl⟩
  rw [HY0.out]
  go_upto_region 11 with fail
  have OZ := Lib.hid (Ob.new w3 #[.int .i64 y0.kind, .int .i64 y0.src, .int .i64 y0.dst, .int .i64 y0.prio, .int .u64 y0.msg, .int .i64 y0.off, .int .i64 y0.len, .int .i64 y0.total, .int .i64 y0.num, .slice y0.da y0.dn y0.dc] TFr)
  have KA : Hid (Below w3.heap.size w3 (w3.alloc (.cells #[.int .i64 y0.kind, .int .i64 y0.src, .int .i64 y0.dst, .int .i64 y0.prio, .int .u64 y0.msg, .int .i64 y0.off, .int .i64 y0.len, .int .i64 y0.total, .int .i64 y0.num, .slice y0.da y0.dn y0.dc] TFr))) := Lib.hid ((Below.refl _ w3).alloc (Nat.le_refl _) _)
  have M4 := Lib.hid (M3.out.below KA.out)
  have OX4 := Lib.hid (OX3.out.below KA.out)
  have B4 := Lib.hid (B3.out.trans (KA.out.mono B3.out.size))
  have lX3 := OX3.out.lt
  obtain ⟨Z, HZ⟩ : ∃ Z, Hid (w3.heap.size = Z) := ⟨_, Lib.hid rfl⟩
  rw [HZ.out] at OZ ⊢
  clear KA
  generalize w3.alloc (.cells #[.int .i64 y0.kind, .int .i64 y0.src, .int .i64 y0.dst, .int .i64 y0.prio, .int .u64 y0.msg, .int .i64 y0.off, .int .i64 y0.len, .int .i64 y0.total, .int .i64 y0.num, .slice y0.da y0.dn y0.dc] TFr) = w4 at *
  obtain ⟨lz, cz, fz⟩ := OZ.out.blk
  have cz0 : w4.cell? ⟨Z, 0, none⟩ = some (.int .i64 y0.kind) := cz 0
  have cz1 : w4.cell? ⟨Z, 1, none⟩ = some (.int .i64 y0.src) := cz 1
  have cz2 : w4.cell? ⟨Z, 2, none⟩ = some (.int .i64 y0.dst) := cz 2
  have cz3 : w4.cell? ⟨Z, 3, none⟩ = some (.int .i64 y0.prio) := cz 3
  have cz4 : w4.cell? ⟨Z, 4, none⟩ = some (.int .u64 y0.msg) := cz 4
  have cz5 : w4.cell? ⟨Z, 5, none⟩ = some (.int .i64 y0.off) := cz 5
  have cz6 : w4.cell? ⟨Z, 6, none⟩ = some (.int .i64 y0.len) := cz 6
  have cz7 : w4.cell? ⟨Z, 7, none⟩ = some (.int .i64 y0.total) := cz 7
  have cz8 : w4.cell? ⟨Z, 8, none⟩ = some (.int .i64 y0.num) := cz 8
  have cz9 : w4.cell? ⟨Z, 9, none⟩ = some (.slice y0.da y0.dn y0.dc) := cz 9
  clear cz
  go_upto_region 12 with fail
  have hXZ : X ≠ Z := by have := HZ.out; omega
  have hmZ : ¬ Only Z m := fun hh => absurd (Ty.one (by rw [show m = Z from hh] at M4; exact M4.out.ob.ty) OZ.out.ty) (by decide)
  have OZ5 : Hid (Ob (w4.setCell ⟨Z, 3, none⟩ (.int .i64 7)) Z #[.int .i64 (x.hdr 7).kind, .int .i64 (x.hdr 7).src, .int .i64 (x.hdr 7).dst, .int .i64 (x.hdr 7).prio, .int .u64 (x.hdr 7).msg, .int .i64 (x.hdr 7).off, .int .i64 (x.hdr 7).len, .int .i64 (x.hdr 7).total, .int .i64 (x.hdr 7).num, .slice (x.hdr 7).da (x.hdr 7).dn (x.hdr 7).dc] TFr) := Lib.hid (by
    refine Ob.cast (OZ.out.set 3 _) ?_
    rw [← HY0.out]
    rfl)
  have OX5 := Lib.hid (OX4.out.other ⟨Z, 3, none⟩ (.int .i64 7) hXZ)
  have M5 := Lib.hid (M4.out.kept (Kept.setO (b := Z) (i := 3) (v := .int .i64 7) (Kept.refl (Only Z) w4)) hmZ (fun g hg _ => ⟨TFr, by rw [show g = Z from hg]; exact OZ.out.ty, by decide⟩))
  have B5 := Lib.hid (B4.out.setCell (p := ⟨Z, 3, none⟩) (show w.heap.size ≤ Z by have := HZ.out; have := HX.out; omega) (.int .i64 7))
  clear lz fz cz0 cz1 cz2 cz3 cz4 cz5 cz6 cz7 cz8 cz9
  generalize w4.setCell ⟨Z, 3, none⟩ (.int .i64 7) = w5 at *
  obtain ⟨y, HY⟩ : ∃ y, Hid (x.hdr 7 = y) := ⟨_, Lib.hid rfl⟩
  rw [HY.out] at OZ5
  have HYP : Hid (y.path = x.path) := Lib.hid (by rw [← HY.out]; rfl)
  obtain ⟨lz, cz, fz⟩ := OZ5.out.blk
  have cz0 : w5.cell? ⟨Z, 0, none⟩ = some (.int .i64 y.kind) := cz 0
  have cz1 : w5.cell? ⟨Z, 1, none⟩ = some (.int .i64 y.src) := cz 1
  have cz2 : w5.cell? ⟨Z, 2, none⟩ = some (.int .i64 y.dst) := cz 2
  have cz3 : w5.cell? ⟨Z, 3, none⟩ = some (.int .i64 y.prio) := cz 3
  have cz4 : w5.cell? ⟨Z, 4, none⟩ = some (.int .u64 y.msg) := cz 4
  have cz5 : w5.cell? ⟨Z, 5, none⟩ = some (.int .i64 y.off) := cz 5
  have cz6 : w5.cell? ⟨Z, 6, none⟩ = some (.int .i64 y.len) := cz 6
  have cz7 : w5.cell? ⟨Z, 7, none⟩ = some (.int .i64 y.total) := cz 7
  have cz8 : w5.cell? ⟨Z, 8, none⟩ = some (.int .i64 y.num) := cz 8
  have cz9 : w5.cell? ⟨Z, 9, none⟩ = some (.slice y.da y.dn y.dc) := cz 9
  clear cz
  have lX := OX5.out.lt
  have cX10 : w5.cell? ⟨X, 10, none⟩ = some (.int .i64 y.path) := by rw [HYP.out]; exact (OX5.out.blk).2.1 10
  have HYO : Hid (y.ok2) := Lib.hid (by rw [← HY.out]; exact ⟨Nat.zero_le _, HXO.out.len⟩)
  have HYB : Hid (y.bytes = 26) := Lib.hid (by rw [← HY.out]; rfl)
  have hpu := mpush_no m U uc t N 7 y w5 M5.out HO.out hN HYO.out (by rw [HYB.out]; exact hf2)
  unfold It.val at hpu
  go_wp2_with fail
  refine (hpu).mono ?_
  rintro e w6 ⟨rfl, hb6⟩
  have B6 := Lib.hid (B5.out.trans (hb6.mono B5.out.size))
  clear hb6 hpu
  go_wp2_with fail
  go_ret
  exact ⟨rfl, HX.out ▸ B6.out⟩
end Go.Proofs.Ytoihhidoafgoaaa
/- The document's port (chapter 13): what waits; Take. -/
namespace Go.Proofs.Ytoihhidoafgoaaa
open Go.RowKit

def Mp.waits (t : Mp) : List It := wfrom t.L 8 ++ t.C
def MWait (t : Mp) (w : World) (e : Ending) (w' : World) : Prop := ∃ v, e = .returned v ∧ w'.ownsRow w.heap.size TX 11 v t.waits.length (t.waits.flatMap It.row) ∧ Below w.heap.size w w'
set_option maxRecDepth 100000 in
set_option maxHeartbeats 4000000 in
theorem mwait (m : Nat) (U : Nat → Value) (uc : Value) (t : Mp) (N : Nat) (w : World) (h : Mo m U uc t w) (ho : t.ok N) (hN : N ≤ 100000) : Calls Try.prog 57 #[.pointer (some ⟨m, 0, none⟩)] w (MWait t w) := by
  have HM := Lib.hid h
  have HO := Lib.hid ho
  have HLE := Lib.hid (wfrom_len t.L N ho.len)
  have hcl := ho.clen
  clear h ho
  go_enter Try.func57, Try.ntmps57
  go_wp2_with fail
  go_loopw [3, 4] (fun l k wr => ∃ r : Nat, r ≤ 8 ∧ k = .int .i64 (7 - r) ∧ wr.ownsRow w.heap.size TX 11 l (wfrom t.L r).length ((wfrom t.L r).flatMap It.row) ∧ Below w.heap.size w wr) (fun _ k _ => (intOf k + 1).toNat)
  case atStart => exact ⟨0, by omega, rfl, World.ownsRow_nil _ _ _ _, Below.refl _ _⟩
  case round =>
    obtain ⟨r, hr, rfl, ho, hb⟩ := hrel
    obtain ⟨ao, co, rfl, _, _⟩ := (Rd.of_own ho).form
    have HOW := Lib.hid ho
    have HB := Lib.hid hb
    have sw := hb.size
    clear ho hb
    rename World => wk
    have M2 := Lib.hid (HM.out.below HB.out)
    have lm := M2.out.ob.lt
    have hle : (wfrom t.L r).length ≤ 800000 := by
      have h1 := HLE.out r hr
      have : r * N ≤ 8 * 100000 := Nat.mul_le_mul hr hN
      omega
    by_cases h8 : r < 8
    · obtain ⟨q, hq⟩ : ∃ q : Nat, q = 7 - r := ⟨_, rfl⟩
      have hq8 : q < 8 := by omega
      have hqi : (7 : Int) - r = q := by omega
      have hlq := HO.out.len q hq8
      have HQ := Lib.hid hq
      have HQI := Lib.hid hqi
      rw [hqi]
      clear hq hqi
      obtain ⟨a, c, hv, hlc, hcm⟩ := (M2.out.lines q hq8).form
      have cl : wk.cell? ⟨m, 3 + q, none⟩ = some (.slice a (t.L q).length c) := by rw [M2.out.line hq8, hv]
      have hrd := (M2.out.lines q hq8).rd
      rw [hv] at hrd
      have HR := Lib.hid hrd
      clear hv hrd
      go_wp2_with (at_builtin; refine wpList_appAt rfl (.tmp 9) (.tmp 15) 103 rfl info_x Try.underlying103 rfl (by decide) HOW.out HR.out rfl rfl (one_itrows _) (by omega) sw ?_; intro v' w' ho' hg' hf')
      have hb' := grown_below HOW.out hg' sw
      go_roundw
      case rel =>
        refine ⟨r + 1, by omega, by have := HQI.out; congr 1; push_cast; omega, ?_, HB.out.trans hb'⟩
        have h2 : wfrom t.L (r + 1) = wfrom t.L r ++ t.L q := by rw [wfrom, HQ.out]
        rw [h2, List.length_append, List.flatMap_append]
        exact ho'
      case measure => simp [intOf]
    · obtain rfl : r = 8 := by omega
      rw [show (7 : Int) - ((8 : Nat) : Int) = -1 from rfl]
      obtain ⟨a, c, hv, hlc, hcm⟩ := M2.out.cr.form
      have cl : wk.cell? ⟨m, 11, none⟩ = some (.slice a t.C.length c) := by rw [← hv]; exact (M2.out.ob.blk).2.1 11
      have hrd := M2.out.cr.rd
      rw [hv] at hrd
      have HR := Lib.hid hrd
      clear hv hrd
      go_wp2_with (at_builtin; refine wpList_appAt rfl (.tmp 17) (.tmp 21) 103 rfl info_x Try.underlying103 rfl (by decide) HOW.out HR.out rfl rfl (one_itrows _) (by omega) sw ?_; intro v' w' ho' hg' hf')
      have hb' := grown_below HOW.out hg' sw
      go_ret
      refine ⟨v', rfl, ?_, HB.out.trans hb'⟩
      unfold Mp.waits
      rw [List.length_append, List.flatMap_append]
      exact ho'
end Go.Proofs.Ytoihhidoafgoaaa
/- The document's port (chapter 13): Take. -/
namespace Go.Proofs.Ytoihhidoafgoaaa
open Go.RowKit

theorem slAddr_blk {a : Option Addr} {c l s : Nat} {b : Addr} (h : slAddr a c l s = some b) : ∃ a0, a = some a0 ∧ a0.block = b.block := by
  unfold slAddr at h
  split at h
  · exact ⟨b, h, rfl⟩
  · cases a with
    | none => cases h
    | some a0 =>
      have h1 : a0.add (l * s) = b := Option.some.inj h
      exact ⟨a0, rfl, by rw [← h1]; unfold Addr.add; first | rfl | (split <;> rfl) | simp⟩
theorem Rt.sub {w : World} {l : List It} {a : Option Addr} {c : Nat} (h : Rt w (.slice a l.length c) l) (i m : Nat) (hi : i ≤ m) (hm : m ≤ l.length) : Rt w (.slice (slAddr a c i 11) (m - i) (c - i)) ((l.drop i).take (m - i)) := by
  refine ⟨?_, fun b n c' hv => ?_⟩
  · have h1 := h.rd.sub i m hi hm
    rw [flat_drop rowIt, flat_take rowIt] at h1
    rw [show ((l.drop i).take (m - i)).length = m - i by rw [List.length_take, List.length_drop]; omega]
    exact h1
  · have h1 : slAddr a c i 11 = some b := by injection hv
    obtain ⟨a0, h2, h3⟩ := slAddr_blk h1
    rw [← h3]
    exact h.ty a0 _ _ (by rw [h2])
theorem Rt.tail {w : World} {l : List It} {a : Option Addr} {c : Nat} (h : Rt w (.slice a l.length c) l) (i : Nat) (hi : i ≤ l.length) : Rt w (.slice (slAddr a c i 11) (l.length - i) (c - i)) (l.drop i) := by
  have := h.sub i l.length hi (Nat.le_refl _)
  rwa [List.take_of_length_le (by rw [List.length_drop]; omega)] at this
theorem Rt.to {w : World} {l : List It} {a : Option Addr} {c : Nat} (h : Rt w (.slice a l.length c) l) (k : Nat) (hk : k ≤ l.length) : Rt w (.slice a k c) (l.take k) := by
  have h1 := h.sub 0 k (Nat.zero_le _) hk
  have h2 : slAddr a c 0 11 = a := by
    unfold slAddr
    split
    · rfl
    · cases a with
      | none => rfl
      | some a0 => show some (a0.add (0 * 11)) = some a0; rw [Nat.zero_mul]; cases a0; rfl
  rw [h2, Nat.sub_zero, Nat.sub_zero, List.drop_zero] at h1
  exact h1
theorem Mo.cell12 {m : Nat} {U : Nat → Value} {uc : Value} {t : Mp} {w : World} (h : Mo m U uc t w) (T : Int) : Mo m U uc { t with now := T } (w.setCell ⟨m, 12, none⟩ (.int .i64 T)) :=
  have hk : Kept (Only m) w (w.setCell ⟨m, 12, none⟩ (.int .i64 T)) := (Kept.refl _ _).setO
  ⟨h.ob.set 12 _, fun i hi => h.row hk (h.lines i hi), h.row hk h.cr⟩
set_option maxRecDepth 100000 in
set_option maxHeartbeats 4000000 in
theorem mtake_cred (m : Nat) (U : Nat → Value) (uc : Value) (t : Mp) (x : It) (r : List It) (now T : Int) (w : World) (h : Mo m U uc t w) (hC : t.C = x :: r) (hT : max t.now (min now 1125899906842624) = T) (hd : t.ever = false ∨ (t.ever = true ∧ 4 ≤ T - t.last)) (hb : 0 ≤ T ∧ T ≤ 1125899906842624 ∧ 0 ≤ t.last ∧ t.last ≤ 1125899906842624) : Calls Try.prog 53 #[.pointer (some ⟨m, 0, none⟩), .int .i64 now] w fun e w' => e = .returned (.tuple #[boxV x, .bool true]) ∧ MoPost m { t with C := r, now := T, last := T, ever := true } w w' := by
  have HC := Lib.hid hC
  have HD := Lib.hid hd
  have h0 : 0 < t.C.length := by rw [hC]; simp
  clear hC hd
  have HM := Lib.hid h
  have HT := Lib.hid hT
  clear h hT
  go_enter Try.func53, Try.ntmps53
  go_upto_region 1 with fail
  have OX := Lib.hid (Ob.new w #[.int .i64 0, .int .i64 0, .int .i64 0, .int .i64 0, .int .u64 0, .int .i64 0, .int .i64 0, .int .i64 0, .int .i64 0, .slice none 0 0, .int .i64 0] TX)
  have HB := Lib.hid ((Below.refl w.heap.size w).alloc (Nat.le_refl _) (.cells #[.int .i64 0, .int .i64 0, .int .i64 0, .int .i64 0, .int .u64 0, .int .i64 0, .int .i64 0, .int .i64 0, .int .i64 0, .slice none 0 0, .int .i64 0] TX))
  have M1 := Lib.hid (HM.out.below HB.out)
  generalize w.alloc (.cells #[.int .i64 0, .int .i64 0, .int .i64 0, .int .i64 0, .int .u64 0, .int .i64 0, .int .i64 0, .int .i64 0, .int .i64 0, .slice none 0 0, .int .i64 0] TX) = w1 at *
  obtain ⟨X, HX⟩ : ∃ X, Hid (w.heap.size = X) := ⟨_, Lib.hid rfl⟩
  rw [HX.out] at OX ⊢
  have hXm : X ≠ m := fun hh => absurd (Ty.one (by rw [hh] at OX; exact OX.out.ty) M1.out.ob.ty) (by decide)
  have lm := M1.out.ob.lt
  have fm := (M1.out.ob.blk).2.2
  have cm12 : w1.cell? ⟨m, 12, none⟩ = some (.int .i64 t.now) := (M1.out.ob.blk).2.1 12
  go_upto_region 2 with fail
  rw [HT.out]
  have M2 := Lib.hid (M1.out.cell12 T)
  have OX2 := Lib.hid (OX.out.other ⟨m, 12, none⟩ (.int .i64 T) hXm)
  have K2 := Lib.hid ((Kept.of_below (M := Only m) HB.out).trans (Kept.setO (b := m) (i := 12) (v := .int .i64 T) (Kept.refl _ _)))
  clear lm fm cm12
  generalize w1.setCell ⟨m, 12, none⟩ (.int .i64 T) = w2 at *
  have lm := M2.out.ob.lt
  have cm12 : w2.cell? ⟨m, 12, none⟩ = some (.int .i64 T) := (M2.out.ob.blk).2.1 12
  have cm13 : w2.cell? ⟨m, 13, none⟩ = some (.int .i64 t.last) := (M2.out.ob.blk).2.1 13
  have cm14 : w2.cell? ⟨m, 14, none⟩ = some (.bool t.ever) := (M2.out.ob.blk).2.1 14
  obtain ⟨a, c, hv, hlc, hcm⟩ := M2.out.cr.form
  have HV := Lib.hid hv
  have cl : w2.cell? ⟨m, 11, none⟩ = some (.slice a t.C.length c) := by rw [← hv]; exact (M2.out.ob.blk).2.1 11
  clear hv
  go_cut [43] from 19 (fun s wx => s = .bool true ∧ Mo m U uc { t with now := T } wx ∧ Ob wx X #[.int .i64 0, .int .i64 0, .int .i64 0, .int .i64 0, .int .u64 0, .int .i64 0, .int .i64 0, .int .i64 0, .int .i64 0, .slice none 0 0, .int .i64 0] TX ∧ Kept (Only m) w wx)
  case first =>
    rcases HD.out with he | ⟨he, hd⟩
    · rw [he] at cm14
      refine wp_region_quiet_lit (by kernel_rfl) (by kernel_rfl) ?_
      try simp only [List.append]
      repeat (first | go_big_quiet_step (fail) | quiet_step (fail))
      refine wpQuiet_nil ?_
      intro W hW
      have MW : Hid (Mo m U uc { t with now := T } W) := by obtain ⟨n, rfl⟩ := hW; exact Lib.hid (M2.out.keptF (Kept.dn _ _ _))
      have OW : Hid (Ob W X #[.int .i64 0, .int .i64 0, .int .i64 0, .int .i64 0, .int .u64 0, .int .i64 0, .int .i64 0, .int .i64 0, .int .i64 0, .slice none 0 0, .int .i64 0] TX) := by obtain ⟨n, rfl⟩ := hW; exact Lib.hid OX2.out.dn
      have KW : Hid (Kept (Only m) w W) := by obtain ⟨n, rfl⟩ := hW; exact Lib.hid (K2.out.dnR n)
      clear hW
      go_wp2_with fail
      go_meet
      exact ⟨rfl, MW.out, OW.out, KW.out⟩
    · rw [he] at cm14
      refine wp_region_quiet_lit (by kernel_rfl) (by kernel_rfl) ?_
      try simp only [List.append]
      repeat (first | go_big_quiet_step (fail) | quiet_step (fail))
      refine wpQuiet_nil ?_
      intro W hW
      have MW : Hid (Mo m U uc { t with now := T } W) := by obtain ⟨n, rfl⟩ := hW; exact Lib.hid (M2.out.keptF (Kept.dn _ _ _))
      have OW : Hid (Ob W X #[.int .i64 0, .int .i64 0, .int .i64 0, .int .i64 0, .int .u64 0, .int .i64 0, .int .i64 0, .int .i64 0, .int .i64 0, .slice none 0 0, .int .i64 0] TX) := by obtain ⟨n, rfl⟩ := hW; exact Lib.hid OX2.out.dn
      have KW : Hid (Kept (Only m) w W) := by obtain ⟨n, rfl⟩ := hW; exact Lib.hid (K2.out.dnR n)
      clear hW
      go_wp2_with fail
      go_meet
      exact ⟨rfl, MW.out, OW.out, KW.out⟩
  case rest =>
  obtain ⟨rfl, hm3, ho3, hk3⟩ := hcut
  have M3 := Lib.hid hm3
  have OX3 := Lib.hid ho3
  have K3 := Lib.hid hk3
  clear hm3 ho3 hk3 lm cm12 cm13 cm14 cl
  rename World => w3
  have lm := M3.out.ob.lt
  have fm := (M3.out.ob.blk).2.2
  have cl : w3.cell? ⟨m, 11, none⟩ = some (.slice a t.C.length c) := by rw [← HV.out]; exact (M3.out.ob.blk).2.1 11
  have hrd := M3.out.cr
  rw [HV.out] at hrd
  obtain ⟨g, o, hgo, hg, hc⟩ := hrd.rd.row rowIt (by decide) 0 h0
  cases hgo
  have hx0 : t.C[0] = x := by simp [HC.out]
  rw [hx0] at hc
  have c0 : w3.cell? ⟨g, o, none⟩ = some (.int .i64 x.kind) := hc 0 _ rfl
  have c1 : w3.cell? ⟨g, o + 1, none⟩ = some (.int .i64 x.src) := hc 1 _ rfl
  have c2 : w3.cell? ⟨g, o + 2, none⟩ = some (.int .i64 x.dst) := hc 2 _ rfl
  have c3 : w3.cell? ⟨g, o + 3, none⟩ = some (.int .i64 x.prio) := hc 3 _ rfl
  have c4 : w3.cell? ⟨g, o + 4, none⟩ = some (.int .u64 x.msg) := hc 4 _ rfl
  have c5 : w3.cell? ⟨g, o + 5, none⟩ = some (.int .i64 x.off) := hc 5 _ rfl
  have c6 : w3.cell? ⟨g, o + 6, none⟩ = some (.int .i64 x.len) := hc 6 _ rfl
  have c7 : w3.cell? ⟨g, o + 7, none⟩ = some (.int .i64 x.total) := hc 7 _ rfl
  have c8 : w3.cell? ⟨g, o + 8, none⟩ = some (.int .i64 x.num) := hc 8 _ rfl
  have c9 : w3.cell? ⟨g, o + 9, none⟩ = some (.slice x.da x.dn x.dc) := hc 9 _ rfl
  have c10 : w3.cell? ⟨g, o + 10, none⟩ = some (.int .i64 x.path) := hc 10 _ rfl
  have HRT := Lib.hid (hrd.tail 1 h0)
  clear hc hrd hx0
  go_upto_region 4 with fail
  have OZ := Lib.hid (Ob.new w3 #[.int .i64 x.kind, .int .i64 x.src, .int .i64 x.dst, .int .i64 x.prio, .int .u64 x.msg, .int .i64 x.off, .int .i64 x.len, .int .i64 x.total, .int .i64 x.num, .slice x.da x.dn x.dc, .int .i64 x.path] TX)
  have KA : Hid (Kept (fun _ => False) w3 (w3.alloc (.cells #[.int .i64 x.kind, .int .i64 x.src, .int .i64 x.dst, .int .i64 x.prio, .int .u64 x.msg, .int .i64 x.off, .int .i64 x.len, .int .i64 x.total, .int .i64 x.num, .slice x.da x.dn x.dc, .int .i64 x.path] TX))) := Lib.hid ((Kept.refl _ _).alloc _)
  have M4 := Lib.hid (M3.out.keptF KA.out)
  have OX4 := Lib.hid (OX3.out.kept KA.out (fun h => h))
  have RT4 := Lib.hid (HRT.out.kept KA.out (fun _ hh => hh.elim))
  have lX3 := OX3.out.lt
  obtain ⟨Z, HZ⟩ : ∃ Z, Hid (w3.heap.size = Z) := ⟨_, Lib.hid rfl⟩
  rw [HZ.out] at OZ ⊢
  have hXZ : X ≠ Z := by have := HZ.out; omega
  have hmZ : m ≠ Z := by have := HZ.out; omega
  clear lm fm cl c0 c1 c2 c3 c4 c5 c6 c7 c8 c9 c10
  generalize w3.alloc (.cells #[.int .i64 x.kind, .int .i64 x.src, .int .i64 x.dst, .int .i64 x.prio, .int .u64 x.msg, .int .i64 x.off, .int .i64 x.len, .int .i64 x.total, .int .i64 x.num, .slice x.da x.dn x.dc, .int .i64 x.path] TX) = w4 at *
  have lm := M4.out.ob.lt
  have fm := (M4.out.ob.blk).2.2
  have cl : w4.cell? ⟨m, 11, none⟩ = some (.slice (some ⟨g, o, none⟩) t.C.length c) := by rw [← HV.out]; exact (M4.out.ob.blk).2.1 11
  have cm12 : w4.cell? ⟨m, 12, none⟩ = some (.int .i64 T) := (M4.out.ob.blk).2.1 12
  have cm13 : w4.cell? ⟨m, 13, none⟩ = some (.int .i64 t.last) := (M4.out.ob.blk).2.1 13
  have cm14 : w4.cell? ⟨m, 14, none⟩ = some (.bool t.ever) := (M4.out.ob.blk).2.1 14
  go_upto_region 7 with (refine wpList_slFrom rfl _ _ _ rfl Try.underlying103 info_x rfl rfl (by omega) ?_)
  have OB : Hid (Ob (((w4.setCell ⟨m, 11, none⟩ (.slice (slAddr (some ⟨g, o, none⟩) c 1 11) (t.C.length - 1) (c - 1))).setCell ⟨m, 13, none⟩ (.int .i64 T)).setCell ⟨m, 14, none⟩ (.bool true)) m (mcells U (.slice (slAddr (some ⟨g, o, none⟩) c 1 11) (t.C.length - 1) (c - 1)) { t with C := r, now := T, last := T, ever := true }) TM) := Lib.hid (Ob.cast (((M4.out.ob.set 11 _).set 13 _).set 14 _) (by rfl))
  have K5 : Hid (Kept (Only m) w4 (((w4.setCell ⟨m, 11, none⟩ (.slice (slAddr (some ⟨g, o, none⟩) c 1 11) (t.C.length - 1) (c - 1))).setCell ⟨m, 13, none⟩ (.int .i64 T)).setCell ⟨m, 14, none⟩ (.bool true))) := Lib.hid (Kept.refl _ _).setO.setO.setO
  have hr1 : t.C.drop 1 = r := by rw [HC.out]; rfl
  have RT4' := RT4.out
  have hr1' : ({ t with now := T } : Mp).C.drop 1 = r := hr1
  have M5 := Lib.hid (show Mo m U (.slice (slAddr (some ⟨g, o, none⟩) c 1 11) (t.C.length - 1) (c - 1)) { t with C := r, now := T, last := T, ever := true } _ from ⟨OB.out, fun i hi => M4.out.row K5.out (M4.out.lines i hi), M4.out.row K5.out (hr1' ▸ RT4')⟩)
  have OX5 := Lib.hid (((OX4.out.other ⟨m, 11, none⟩ (.slice (slAddr (some ⟨g, o, none⟩) c 1 11) (t.C.length - 1) (c - 1)) hXm).other ⟨m, 13, none⟩ (.int .i64 T) hXm).other ⟨m, 14, none⟩ (.bool true) hXm)
  have OZ5 := Lib.hid (((OZ.out.other ⟨m, 11, none⟩ (.slice (slAddr (some ⟨g, o, none⟩) c 1 11) (t.C.length - 1) (c - 1)) (fun hh => hmZ hh.symm)).other ⟨m, 13, none⟩ (.int .i64 T) (fun hh => hmZ hh.symm)).other ⟨m, 14, none⟩ (.bool true) (fun hh => hmZ hh.symm))
  have K6 := Lib.hid ((K3.out.trans (KA.out.mono fun _ _ h => h.elim)).trans K5.out)
  have HNL := Lib.hid (fun (i : Nat) (hi : i < 8) (a : Addr) (n c : Nat) (hv : U i = .slice (some a) n c) => show a.block ≠ X from by
    obtain ⟨cs, h2⟩ := (HM.out.lines i hi).ty a n c hv
    have := heap_lt h2
    have := HX.out
    omega)
  have HNC := Lib.hid (fun (a : Addr) (n c' : Nat) (hv : Value.slice (slAddr (some ⟨g, o, none⟩) c 1 11) (t.C.length - 1) (c - 1) = .slice (some a) n c') => show a.block ≠ X from by
    have h1 : slAddr (some ⟨g, o, none⟩) c 1 11 = some a := by injection hv
    obtain ⟨a0, h2, h3⟩ := slAddr_blk h1
    cases h2
    obtain ⟨cs, h4⟩ := HM.out.cr.ty _ _ _ HV.out
    have := heap_lt h4
    have := HX.out
    rw [← h3]
    omega)
  clear lm fm cl cm12 cm13 cm14 OB K5 RT4' hr1 hr1'
  generalize ((w4.setCell ⟨m, 11, none⟩ (.slice (slAddr (some ⟨g, o, none⟩) c 1 11) (t.C.length - 1) (c - 1))).setCell ⟨m, 13, none⟩ (.int .i64 T)).setCell ⟨m, 14, none⟩ (.bool true) = w5 at *
  obtain ⟨lz, cz, fz⟩ := OZ5.out.blk
  have cz0 : w5.cell? ⟨Z, 0, none⟩ = some (.int .i64 x.kind) := cz 0
  have cz1 : w5.cell? ⟨Z, 1, none⟩ = some (.int .i64 x.src) := cz 1
  have cz2 : w5.cell? ⟨Z, 2, none⟩ = some (.int .i64 x.dst) := cz 2
  have cz3 : w5.cell? ⟨Z, 3, none⟩ = some (.int .i64 x.prio) := cz 3
  have cz4 : w5.cell? ⟨Z, 4, none⟩ = some (.int .u64 x.msg) := cz 4
  have cz5 : w5.cell? ⟨Z, 5, none⟩ = some (.int .i64 x.off) := cz 5
  have cz6 : w5.cell? ⟨Z, 6, none⟩ = some (.int .i64 x.len) := cz 6
  have cz7 : w5.cell? ⟨Z, 7, none⟩ = some (.int .i64 x.total) := cz 7
  have cz8 : w5.cell? ⟨Z, 8, none⟩ = some (.int .i64 x.num) := cz 8
  have cz9 : w5.cell? ⟨Z, 9, none⟩ = some (.slice x.da x.dn x.dc) := cz 9
  have cz10 : w5.cell? ⟨Z, 10, none⟩ = some (.int .i64 x.path) := cz 10
  clear cz
  obtain ⟨lx, cx, fx⟩ := OX5.out.blk
  have cx0 : w5.cell? ⟨X, 0, none⟩ = some (.int .i64 0) := cx 0
  have cx1 : w5.cell? ⟨X, 1, none⟩ = some (.int .i64 0) := cx 1
  have cx2 : w5.cell? ⟨X, 2, none⟩ = some (.int .i64 0) := cx 2
  have cx3 : w5.cell? ⟨X, 3, none⟩ = some (.int .i64 0) := cx 3
  have cx4 : w5.cell? ⟨X, 4, none⟩ = some (.int .u64 0) := cx 4
  have cx5 : w5.cell? ⟨X, 5, none⟩ = some (.int .i64 0) := cx 5
  have cx6 : w5.cell? ⟨X, 6, none⟩ = some (.int .i64 0) := cx 6
  have cx7 : w5.cell? ⟨X, 7, none⟩ = some (.int .i64 0) := cx 7
  have cx8 : w5.cell? ⟨X, 8, none⟩ = some (.int .i64 0) := cx 8
  have cx9 : w5.cell? ⟨X, 9, none⟩ = some (.slice none 0 0) := cx 9
  have cx10 : w5.cell? ⟨X, 10, none⟩ = some (.int .i64 0) := cx 10
  clear cx
  go_wp2_with fail
  have hw : (((((((((((w5.setCell ⟨X, 0, none⟩ (.int .i64 x.kind)).setCell ⟨X, 1, none⟩ (.int .i64 x.src)).setCell ⟨X, 2, none⟩ (.int .i64 x.dst)).setCell ⟨X, 3, none⟩ (.int .i64 x.prio)).setCell ⟨X, 4, none⟩ (.int .u64 x.msg)).setCell ⟨X, 5, none⟩ (.int .i64 x.off)).setCell ⟨X, 6, none⟩ (.int .i64 x.len)).setCell ⟨X, 7, none⟩ (.int .i64 x.total)).setCell ⟨X, 8, none⟩ (.int .i64 x.num)).setCell ⟨X, 9, none⟩ (.slice x.da x.dn x.dc)).setCell ⟨X, 10, none⟩ (.int .i64 x.path)) = w5.setCells X 0 [.int .i64 x.kind, .int .i64 x.src, .int .i64 x.dst, .int .i64 x.prio, .int .u64 x.msg, .int .i64 x.off, .int .i64 x.len, .int .i64 x.total, .int .i64 x.num, .slice x.da x.dn x.dc, .int .i64 x.path] := rfl
  rw [hw]
  clear hw cx0 cx1 cx2 cx3 cx4 cx5 cx6 cx7 cx8 cx9 cx10 cz0 cz1 cz2 cz3 cz4 cz5 cz6 cz7 cz8 cz9 cz10 lz fz lx fx
  have OF := Lib.hid (OX5.out.sets [.int .i64 x.kind, .int .i64 x.src, .int .i64 x.dst, .int .i64 x.prio, .int .u64 x.msg, .int .i64 x.off, .int .i64 x.len, .int .i64 x.total, .int .i64 x.num, .slice x.da x.dn x.dc, .int .i64 x.path] rfl)
  have KF : Hid (Kept (Only X) w5 (w5.setCells X 0 [.int .i64 x.kind, .int .i64 x.src, .int .i64 x.dst, .int .i64 x.prio, .int .u64 x.msg, .int .i64 x.off, .int .i64 x.len, .int .i64 x.total, .int .i64 x.num, .slice x.da x.dn x.dc, .int .i64 x.path])) := Lib.hid ((Kept.refl (Only X) w5).setsO (X := X) (show X = X from rfl) _)
  have KW := Lib.hid (K6.out.setsN (X := X) (Nat.le_of_eq HX.out) [.int .i64 x.kind, .int .i64 x.src, .int .i64 x.dst, .int .i64 x.prio, .int .u64 x.msg, .int .i64 x.off, .int .i64 x.len, .int .i64 x.total, .int .i64 x.num, .slice x.da x.dn x.dc, .int .i64 x.path])
  have NX := Lib.hid (fun (v : Value) (l : List It) (hr : Rt w5 v l) (hv : ∀ a n c, v = .slice (some a) n c → a.block ≠ X) => show Rt (w5.setCells X 0 [.int .i64 x.kind, .int .i64 x.src, .int .i64 x.dst, .int .i64 x.prio, .int .u64 x.msg, .int .i64 x.off, .int .i64 x.len, .int .i64 x.total, .int .i64 x.num, .slice x.da x.dn x.dc, .int .i64 x.path]) v l from ⟨hr.rd.kept KF.out fun a n c h hh => hv a n c h hh, fun a n c h => (hr.ty a n c h).kept KF.out fun hh => hv a n c h hh⟩)
  have MF := Lib.hid (show Mo _ _ _ _ (w5.setCells X 0 [.int .i64 x.kind, .int .i64 x.src, .int .i64 x.dst, .int .i64 x.prio, .int .u64 x.msg, .int .i64 x.off, .int .i64 x.len, .int .i64 x.total, .int .i64 x.num, .slice x.da x.dn x.dc, .int .i64 x.path]) from ⟨M5.out.ob.kept KF.out (fun hh => hXm (show m = X from hh).symm), fun i hi => NX.out _ _ (M5.out.lines i hi) (HNL.out i hi), NX.out _ _ M5.out.cr HNC.out⟩)
  clear NX
  generalize w5.setCells X 0 [.int .i64 x.kind, .int .i64 x.src, .int .i64 x.dst, .int .i64 x.prio, .int .u64 x.msg, .int .i64 x.off, .int .i64 x.len, .int .i64 x.total, .int .i64 x.num, .slice x.da x.dn x.dc, .int .i64 x.path] = F at *
  obtain ⟨lf, cf, ff⟩ := OF.out.blk
  have cf0 : F.cell? ⟨X, 0, none⟩ = some (.int .i64 x.kind) := cf 0
  have cf1 : F.cell? ⟨X, 1, none⟩ = some (.int .i64 x.src) := cf 1
  have cf2 : F.cell? ⟨X, 2, none⟩ = some (.int .i64 x.dst) := cf 2
  have cf3 : F.cell? ⟨X, 3, none⟩ = some (.int .i64 x.prio) := cf 3
  have cf4 : F.cell? ⟨X, 4, none⟩ = some (.int .u64 x.msg) := cf 4
  have cf5 : F.cell? ⟨X, 5, none⟩ = some (.int .i64 x.off) := cf 5
  have cf6 : F.cell? ⟨X, 6, none⟩ = some (.int .i64 x.len) := cf 6
  have cf7 : F.cell? ⟨X, 7, none⟩ = some (.int .i64 x.total) := cf 7
  have cf8 : F.cell? ⟨X, 8, none⟩ = some (.int .i64 x.num) := cf 8
  have cf9 : F.cell? ⟨X, 9, none⟩ = some (.slice x.da x.dn x.dc) := cf 9
  have cf10 : F.cell? ⟨X, 10, none⟩ = some (.int .i64 x.path) := cf 10
  clear cf
  refine done (.tuple #[boxV x, .bool true]) rfl (by simp [boxV, results, Try.results53, go_sem, cf0, cf1, cf2, cf3, cf4, cf5, cf6, cf7, cf8, cf9, cf10]) ⟨rfl, _, _, MF.out, KW.out⟩
end Go.Proofs.Ytoihhidoafgoaaa
