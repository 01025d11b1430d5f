/- An evaluator for closed runs: regions that draw their order: any order does. -/
import Derived.Test.YtajhndakkaniaaaGreatDoorEvYa
namespace Go.Proofs.YtajhndakkaniaaaGreatDoor
open Go

namespace Ev
section
variable {P : Program} {B N : Nat} {call : Cl} {ops : Array Oper}
theorem ready_mem {lst : Array Bool} (hsz : lst.size = ops.size) {i : Nat} : i ∈ Region.ready .any ops lst ↔ i < ops.size ∧ lst.getD i false = false ∧ ∃ o, ops.toList[i]? = some o ∧ ∀ e ∈ o.after.toList, Region.binds .any e = true → lst.getD e.on false = true := by
  unfold Region.ready
  rw [List.mem_filter, List.mem_range]
  constructor
  · rintro ⟨hi, h⟩
    rw [Bool.and_eq_true] at h
    obtain ⟨h1, h2⟩ := h
    have hg : lst.getD i true = lst.getD i false := by
      rw [Array.getD_eq_getD_getElem?, Array.getD_eq_getD_getElem?, Array.getElem?_eq_getElem (by omega)]
      rfl
    rw [hg] at h1
    have ho : ops[i]? = some ops[i] := Array.getElem?_eq_getElem hi
    rw [ho] at h2
    refine ⟨hi, by simpa using h1, ops[i], by rw [Array.getElem?_toList, ho], fun e he hb => ?_⟩
    have h2' : (ops[i].after.all fun e => !Region.binds .any e || lst.getD e.on false) = true := h2
    have := Array.all_eq_true_iff_forall_mem.1 h2' e (by simpa using he)
    rw [hb] at this
    simpa using this
  · rintro ⟨hi, h1, o, ho, he⟩
    refine ⟨hi, ?_⟩
    have hg : lst.getD i true = lst.getD i false := by
      rw [Array.getD_eq_getD_getElem?, Array.getD_eq_getD_getElem?, Array.getElem?_eq_getElem (by omega)]
      rfl
    rw [Array.getElem?_toList] at ho
    rw [hg, h1, ho, Bool.and_eq_true]
    refine ⟨rfl, ?_⟩
    show (o.after.all fun e => !Region.binds .any e || lst.getD e.on false) = true
    refine Array.all_eq_true_iff_forall_mem.2 fun e hm => ?_
    cases hb : Region.binds .any e with
    | false => rfl
    | true =>
      rw [he e (by simpa using hm) hb]
      rfl
theorem getD_set {lst : Array Bool} {i : Nat} (hi : i < lst.size) (j : Nat) : (lst.setIfInBounds i true).getD j false = if j = i then true else lst.getD j false := by
  rw [Array.getD_eq_getD_getElem?, Array.getElem?_setIfInBounds, Array.getD_eq_getD_getElem?]
  by_cases e : i = j
  · subst e
    rw [if_pos rfl, if_pos hi, if_pos rfl]
    rfl
  · rw [if_neg e, if_neg fun q => e q.symm]
theorem drawn_any (hc : CallOk P B call) {T0 : Tm} {H0 : Hp} {d : Dn} (hrun : runD P call N ops.toList ops.toList 0 T0 H0 = some d) (h1 : oneW ops.toList = true) (h2 : slAll ops.toList (befL ops.toList []) ops.toList 0 = true) {p : Nat} (h3 : chainF (fun j => (befL ops.toList []).getD j 0) p d.as 0 = true) (hfl : floOk (befL ops.toList []) d.as ops.toList T0 p = true) (h4 : qAny P (fun j => (befL ops.toList []).getD j 0) d.as (H0 :: d.gs) ops.toList d.rs = true)
    {φ0 : Ren} {w0 : World} (hB : B ≤ w0.heap.size) {Q : Exit → Act → World → Prop} (hQ : ∀ φ' a' w', Fr φ' d.T N a' → Ext P B φ0 H0 w0 φ' (lastH H0 d.gs) w' → Q .normal a' w') :
    ∀ (fuel : Nat) (lst : Array Bool) (ls : Nat → Bool) (k : Nat) (G : Hp) (φ : Ren) (a : Act) (w : World), lst.size = ops.size → cnt (fun i => !lst.getD i false) ops.size = fuel →
      (∀ (i : Nat) (o : Oper), lst.getD i false = true → ops.toList[i]? = some o → ∀ e ∈ o.after.toList, Region.binds .any e = true → lst.getD e.on false = true) →
      (∀ (q j : Nat), d.as[q]? = some j → (ls j = true ↔ q < k)) → k ≤ d.as.length → (H0 :: d.gs)[k]? = some G → Ext P B φ0 H0 w0 φ G w → Sl ops d N T0 φ ls a → Fl P ops d (fun i => lst.getD i false) ls k p φ G a w0 w → wpAny P .any ops Q fuel lst a w := by
  have hlen := runD_len hrun
  obtain ⟨hgl, hacts⟩ := runD_act hrun
  have inb : ∀ q j : Nat, d.as[q]? = some j → j < ops.size := fun q j hq => by
    obtain ⟨_, o, rc, H1, H2, m1, _⟩ := hacts q _ hq
    have := (List.getElem?_eq_some_iff.1 m1).1
    rw [Array.length_toList] at this
    omega
  -- what is ahead is listed, and what came early is not among it
  have clo2 : ∀ {lst : Array Bool} {ls : Nat → Bool} {k : Nat} {G : Hp} {φ : Ren} {a : Act} {w : World}, (∀ (i : Nat) (o : Oper), lst.getD i false = true → ops.toList[i]? = some o → ∀ e ∈ o.after.toList, Region.binds .any e = true → lst.getD e.on false = true) → (∀ (q j : Nat), d.as[q]? = some j → (ls j = true ↔ q < k)) → Fl P ops d (fun i => lst.getD i false) ls k p φ G a w0 w →
      ∀ (i : Nat) (o : Oper), ops.toList[i]? = some o → (∀ e ∈ o.after.toList, Region.binds .any e = true → lst.getD e.on false = true) → ∀ j, ((befL ops.toList []).getD i 0).testBit j = true → ls j = true := by
    intro lst ls k G φ a w hcl hact hF i o ho he j hj
    have h0 := clo (ls := fun i => lst.getD i false) hcl i o ho he
    rcases hF with hF | ⟨f, hF⟩
    · rw [hF j]; exact h0 j hj
    · by_cases e : j = f
      · exfalso
        subst e
        have hkp := hF.kp
        have hkl : k < d.as.length := by
          have := (List.getElem?_eq_some_iff.1 hF.pos).1
          omega
        have hk : d.as[k]? = some d.as[k] := List.getElem?_eq_getElem hkl
        have hb := (floOk_ok hfl hF.pos).2 i k _ hj hkp hk
        have hl := h0 _ hb
        have hne : d.as[k] ≠ j := fun q => by
          rw [q] at hk
          have := runD_once hrun k p j hk hF.pos
          omega
        have hl2 : ls d.as[k] = true := by rw [hF.els _ hne]; exact hl
        exact absurd ((hact k _ hk).1 hl2) (Nat.lt_irrefl _)
      · rw [hF.els j e]; exact h0 j hj
  intro fuel
  induction fuel with
  | zero =>
    intro lst ls k G φ a w hsz hcnt hcl hact hk hG hx hs hF
    have hall : ∀ i, i < ops.size → lst.getD i false = true := fun i hi => by
      have := cnt_zero hcnt i hi
      simpa using this
    have hF2 : ∀ i, ls i = lst.getD i false := by
      rcases hF with hF | ⟨f, hF⟩
      · exact hF
      · exfalso
        have hkp := hF.kp
        have hkl : k < d.as.length := by
          have := (List.getElem?_eq_some_iff.1 hF.pos).1
          omega
        have hk : d.as[k]? = some d.as[k] := List.getElem?_eq_getElem hkl
        have hne : d.as[k] ≠ f := fun q => by
          rw [q] at hk
          have := runD_once hrun k p f hk hF.pos
          omega
        have hl2 : ls d.as[k] = true := by rw [hF.els _ hne]; exact hall _ (inb _ _ hk)
        exact absurd ((hact k _ hk).1 hl2) (Nat.lt_irrefl _)
    have hQn : Q .normal a w := by
      have hke : k = d.as.length := by
        rcases Nat.lt_or_ge k d.as.length with h | h
        · have hq : d.as[k]? = some d.as[k] := List.getElem?_eq_getElem h
          exact absurd ((hact k _ hq).1 (by rw [hF2]; exact hall _ (inb _ _ hq))) (Nat.lt_irrefl _)
        · omega
      subst hke
      rw [← hgl, lastH_ok] at hG
      cases hG
      have hlast : d.at ops.toList.length = d.T := by
        unfold Dn.at
        rw [List.getElem?_eq_none (by omega)]
      refine hQ φ a w ⟨hs.size, hs.defers, fun t tv ht => ?_⟩ hx
      have := hs.sees hrun h1 (n := ops.toList.length) (Nat.le_refl _) (S := [t]) fun s _ j p hp _ => by
        have hj : j < ops.toList.length := (List.getElem?_eq_some_iff.1 hp).1
        exact .inl ⟨by rw [hF2]; exact hall j (by simpa using hj), hj⟩
      exact this t tv (by rw [restT_get, if_pos (by simp), hlast]; exact ht)
    refine ⟨?_, hQn⟩
    cases hr : Region.ready .any ops lst with
    | nil => rfl
    | cons i r =>
      have : i ∈ Region.ready .any ops lst := by rw [hr]; exact List.mem_cons_self
      obtain ⟨hi, hn, _⟩ := (ready_mem hsz).1 this
      rw [hall i hi] at hn
      cases hn
  | succ fuel ih =>
    intro lst ls k G φ a w hsz hcnt hcl hact hk hG hx hs hF
    refine ⟨fun hnil => ?_, fun i hi => ?_⟩
    · -- what is least and not listed is ready
      exfalso
      have hall : ∀ i, i < ops.size → lst.getD i false = true := by
        intro i
        induction i using Nat.strongRecOn with
        | _ i ihi =>
          intro hi
          cases e : lst.getD i false with
          | true => rfl
          | false =>
            have ho : ops.toList[i]? = some ops[i] := by rw [Array.getElem?_toList, Array.getElem?_eq_getElem hi]
            have : i ∈ Region.ready .any ops lst := (ready_mem hsz).2 ⟨hi, e, ops[i], ho, fun ed hed hb => by
              have := (slAll_ok h2 i _ ho).2 ed hed hb
              rw [Nat.zero_add] at this
              exact ihi ed.on this (by omega)⟩
            rw [hnil] at this
            cases this
      have hz : ∀ n, n ≤ ops.size → cnt (fun i => !lst.getD i false) n = 0 := by
        intro n
        induction n with
        | zero => intro _; rfl
        | succ n ihn =>
          intro hn
          rw [cnt, ihn (by omega)]
          simp only [hall n (by omega)]
          rfl
      rw [hz _ (Nat.le_refl _)] at hcnt
      cases hcnt
    · obtain ⟨hi, hn, o, ho, hed⟩ := (ready_mem hsz).1 hi
      obtain ⟨rc, g1, g2, g3, g4, g5⟩ := runD_at hrun i o ho
      rw [Nat.zero_add] at g5
      have hlt : i < lst.size := by omega
      have hlsn : ls i = false := by
        cases e : ls i with
        | false => rfl
        | true =>
          have := hF.le e
          rw [hn] at this
          cases this
      have hbf0 := clo (ls := fun i => lst.getD i false) hcl i o ho hed
      have hbf := clo2 hcl hact hF i o ho hed
      have hsl := (slAll_ok h2 i o ho).1
      rw [Nat.zero_add] at hsl
      have hat : d.at i = rc.T := by
        unfold Dn.at
        rw [g1]
      have hfr : FR φ (restT rc.T (slotsOf ops.toList o)) a := by
        rw [← hat]
        refine hs.sees hrun h1 (by rw [Array.length_toList]; omega) fun t ht j p hp hd => ?_
        rcases writerOk_ok (hsl t ht) j p hp hd with ⟨m1, m2⟩ | ⟨m1, m2⟩
        · rw [Nat.zero_add] at m1 m2
          exact .inl ⟨hbf j m1, m2⟩
        · rw [Nat.zero_add] at m1 m2
          refine .inr ⟨?_, Nat.le_of_lt m2⟩
          cases e : ls j with
          | false => rfl
          | true =>
            have := clo (ls := fun i => lst.getD i false) hcl j p hp (hcl j p (hF.le e) hp) i m1
            rw [hn] at this
            cases this
      have hwant : Region.wanted o (yielded ops a.tmps) = rc.w := wantB_ok hfr (by
        rw [want_rest (l := slotsOf ops.toList o) fun t ht => List.mem_append_right _ ht]
        exact g3)
      have hop : ∀ H, sOp P (restT rc.T (slotsOf ops.toList o)) H o = sOp P rc.T H o := fun H => sOp_congr fun x hx => opd_rest (xs := o.op.operands.toList) (fun t ht => List.mem_append_left _ ht) (by simpa using hx)
      have hset := getD_set hlt
      have hsz' : (lst.setIfInBounds i true).size = ops.size := by rw [Array.size_setIfInBounds]; exact hsz
      have hcnt' : cnt (fun j => !(lst.setIfInBounds i true).getD j false) ops.size = fuel := by
        have := (cnt_set (p := fun j => !lst.getD j false) (p' := fun j => !(lst.setIfInBounds i true).getD j false) (i := i) (by simp [hn]) (by simp [hset]) (fun j hj => by simp only [hset j, if_neg hj]) (n := ops.size)).1 hi
        omega
      have hcl' : ∀ (j : Nat) (p : Oper), (lst.setIfInBounds i true).getD j false = true → ops.toList[j]? = some p → ∀ e ∈ p.after.toList, Region.binds .any e = true → (lst.setIfInBounds i true).getD e.on false = true := fun j p hj hp e he hb => by
        rw [hset] at hj ⊢
        split
        · rfl
        · split at hj
          · rename_i e1
            subst e1
            rw [ho] at hp
            cases hp
            exact hed e he hb
          · exact hcl j p hj hp e he hb
      have hl' : ∀ j, j ≠ i → (lst.setIfInBounds i true).getD j false = lst.getD j false := fun j hj => by rw [hset, if_neg hj]
      have hli : (lst.setIfInBounds i true).getD i false = true := by rw [hset, if_pos rfl]
      obtain ⟨ls', hi', hj'⟩ : ∃ ls' : Nat → Bool, ls' i = true ∧ ∀ j, j ≠ i → ls' j = ls j := ⟨fun j => if j = i then true else ls j, if_pos rfl, fun j hj => if_neg hj⟩
      have hsl' : ∀ (φ' : Ren) (u : Value), Le φ φ' → (∀ tv, rc.r = some tv → tvV φ' tv = some u) → Sl ops d N T0 φ' ls' (a.put o.dst u) := fun φ' u hle hr =>
        hs.put hle h1 ho g1 g2 hr hi' hj'
      have ho' : ops[i]? = some o := by rw [← Array.getElem?_toList]; exact ho
      have quiet : rc.q = true ∨ rc.w = false → ∀ (q j : Nat), d.as[q]? = some j → (ls' j = true ↔ q < k) := fun hq q j hqj => by
        have hne : j ≠ i := fun e => by
          subst e
          obtain ⟨_, o2, rc2, H1, H2, m1, m2, m3, m4, _⟩ := hacts q _ hqj
          rw [Nat.sub_zero, g1] at m2
          cases m2
          rcases hq with h | h
          · rw [h] at m4; cases m4
          · rw [h] at m3; cases m3
        rw [hj' j hne]
        exact hact q j hqj
      have hFq : ∀ u, Fl P ops d (fun i_1 => (lst.setIfInBounds i true).getD i_1 false) ls' k p φ G (a.put o.dst u) w0 w := fun u => hF.put h1 ho hn hli hl' hi' hj' (Ext.refl hx.sr)
      unfold wpOp
      rw [ho']
      simp only
      rw [hwant]
      cases hw : rc.w with
      | false =>
        rw [if_neg Bool.false_ne_true]
        exact ih _ ls' k G φ _ w hsz' hcnt' hcl' (quiet (.inr hw)) hk hG hx (hsl' φ undef (Le.refl _) fun tv ht => by
          rw [g4 hw] at ht
          cases ht
          rfl) (hFq _)
      | true =>
        rw [if_pos rfl]
        refine .inl ?_
        cases hq : rc.q with
        | true =>
          have hlo : ∀ n j : Nat, d.as[n]? = some j → k ≤ 0 + n → Nat.testBit ((befL ops.toList []).getD i 0) j = false := fun n j hj hk => by
            cases hb : Nat.testBit ((befL ops.toList []).getD i 0) j with
            | false => rfl
            | true =>
              have := (hact _ j hj).1 (hbf j hb)
              omega
          have hhi : ∀ n j : Nat, d.as[n]? = some j → 0 + n < k → Nat.testBit ((befL ops.toList []).getD j 0) i = false := fun n j hjq hk => by
            have hlj := hF.le ((hact n j hjq).2 (by omega))
            cases hb : Nat.testBit ((befL ops.toList []).getD j 0) i with
            | false => rfl
            | true =>
              obtain ⟨_, o2, _, _, _, m1, _⟩ := hacts n j hjq
              rw [Nat.sub_zero] at m1
              have := clo (ls := fun i => lst.getD i false) hcl j o2 m1 (hcl j o2 hlj m1) i hb
              rw [hn] at this
              cases this
          obtain ⟨v, e1, e2⟩ : ∃ v, sOp P rc.T G o = .y v ∧ ∀ tv, rc.r = some tv → v = some tv := by
            obtain ⟨G1, c1, c2⟩ := runD_q hrun i o rc ho g1 hw hq
            by_cases hkc : k = cntA d.rs i
            · rw [← hkc, hG] at c1
              cases c1
              exact ⟨rc.r, c2, fun tv q => q⟩
            · unfold qAny at h4
              split at h4
              · rename_i e0
                rw [e0] at hk
                have hk0 : k = 0 := Nat.le_zero.1 hk
                subst hk0
                exfalso
                rw [show d.gs = [] from List.eq_nil_of_length_eq_zero (by rw [hgl, e0]; rfl)] at c1
                have := (List.getElem?_eq_some_iff.1 c1).1
                simp only [List.length_cons, List.length_nil] at this
                omega
              · have hqa := qAll_ok h4 i o rc ho g1 hw hq
                rw [Nat.zero_add, Nat.zero_add] at hqa
                obtain ⟨v, e1, e2⟩ := qAt_ok hqa k G hG (by
                  rw [Nat.zero_add]
                  exact loA_le (Nat.zero_le _) hlo) (by
                  rw [Nat.zero_add]
                  exact le_hiA (by rw [Nat.zero_add]; exact hk) hhi) (by rw [Nat.zero_add]; exact hkc)
                exact ⟨v, e1, tvEq_ok e2⟩
          have hy := sOp_ok (P := P) (B := B) (T := restT rc.T (slotsOf ops.toList o)) (H := G) (o := o)
          rw [hop, e1] at hy
          obtain ⟨u, k1, k2⟩ := hy φ a.eval w hfr.ev hx.sr
          unfold Oper.wp
          rw [k2]
          exact ih _ ls' k G φ _ w hsz' hcnt' hcl' (quiet (.inl hq)) hk hG hx (hsl' φ u (Le.refl _) fun tv ht => k1 tv (e2 tv ht)) (hFq _)
        | false =>
          obtain ⟨_, q, hqi⟩ := g5 hq
          obtain ⟨_, o2, rc2, H1, H2, m1, m2, m3, m4, m5, m6, m7⟩ := hacts q i hqi
          rw [Nat.sub_zero, ho] at m1
          cases m1
          rw [Nat.sub_zero, g1] at m2
          cases m2
          have hge : ¬ q < k := fun h => by
            have := (hact q i hqi).2 h
            rw [hlsn] at this
            cases this
          by_cases hqp : k < q
          · -- it comes early
            have hl : q < d.as.length := (List.getElem?_eq_some_iff.1 hqi).1
            have hqeq : q = p := by
              by_cases e : q = p
              · exact e
              · exfalso
                obtain ⟨q', rfl⟩ : ∃ q', q = q' + 1 := ⟨q - 1, by omega⟩
                have hj : d.as[q']? = some (d.as[q']'(by omega)) := List.getElem?_eq_getElem (by omega)
                have := (hact q' _ hj).1 (hbf _ (chainF_ok h3 q' _ i (by omega) hj hqi))
                omega
            subst hqeq
            have hF0 : ∀ j, ls j = lst.getD j false := by
              rcases hF with hF | ⟨f, hF⟩
              · exact hF
              · exfalso
                have := hF.pos
                rw [hqi] at this
                cases this
                have := hF.on
                rw [hn] at this
                cases this
            obtain ⟨⟨o3, e, t, n1, n2, n3, n4⟩, _⟩ := floOk_ok hfl hqi
            rw [ho] at n1
            cases n1
            obtain ⟨z, n, s1, s2, s3, s4, s5⟩ := resO_alloc n2 m7
            obtain ⟨obj, a1, a2⟩ := alloc_any n2 s1 s2 s3
            unfold Oper.wp
            rw [a2]
            have hxa : w.heap.size < (w.alloc obj).heap.size := by
              show w.heap.size < (w.heap.push obj).size
              rw [Array.size_push]
              omega
            have hold : ∀ b, b < w.heap.size → (w.alloc obj).heap[b]? = w.heap[b]? := fun b hb => by rw [heap_push, if_neg (by omega)]
            have hxx : Ext P B φ0 H0 w0 φ G (w.alloc obj) := by
              refine ⟨hx.le, ⟨fun x o' hx' => ?_, hx.sr.inj, hx.sr.fresh⟩, Nat.le_of_lt (Nat.lt_of_le_of_lt hx.size hxa), fun b hb hnb => ?_, hx.own, hx.os, hx.tape, hx.output, hx.nx⟩
              · obtain ⟨l, obj', q1, q2, q3, q4⟩ := hx.sr.live x o' hx'
                exact ⟨l, obj', q1, by rw [hold _ (Array.getElem?_eq_some_iff.1 q2).1]; exact q2, q3, q4⟩
              · rw [hold b (Nat.lt_of_lt_of_le hb hx.size)]
                exact hx.frame b hb hnb
            have hput : (a.put o.dst (.pointer (some ⟨w.heap.size, 0, none⟩))).tmps = a.tmps.setIfInBounds t (.pointer (some ⟨w.heap.size, 0, none⟩)) := by
              rw [n3]
              rfl
            have hdef : (a.put o.dst (.pointer (some ⟨w.heap.size, 0, none⟩))).defers = a.defers := by
              rw [n3]
              rfl
            have htN : t < N := by
              rw [n3] at g2
              exact Nat.blt_eq.mp g2
            refine ih _ ls k G φ _ _ hsz' hcnt' hcl' hact hk hG hxx ⟨?_, by rw [hdef]; exact hs.defers, fun t' tv hno ht => ?_, fun j pj rj t' tv hl2 hp hrj hdt hv => ?_⟩ (.inr ⟨i, hqp, hqi, hli, hlsn, fun j hj => by rw [hF0 j, hl' j hj], w.heap.size, t, o, obj, e, z, ho, n3, n2, ?_, ?_, hx.size, fun x o' l hx' hφ => Nat.ne_of_lt (hx.sr.lt hx' hφ), s1, fun φ => a1 φ _⟩)
            · rw [hput, Array.size_setIfInBounds]
              exact hs.size
            · have hne : t ≠ t' := fun e1 => by
                subst e1
                rw [n4] at ht
                cases ht
              obtain ⟨v, q1, q2⟩ := hs.old t' tv hno ht
              exact ⟨v, by rw [hput, Array.getElem?_setIfInBounds, if_neg hne]; exact q1, q2⟩
            · have hne : t ≠ t' := fun e1 => by
                subst e1
                have := oneW_ok h1 i j o pj t ho hp n3 hdt
                subst this
                rw [hlsn] at hl2
                cases hl2
              obtain ⟨v, q1, q2⟩ := hs.new j pj rj t' tv hl2 hp hrj hdt hv
              exact ⟨v, by rw [hput, Array.getElem?_setIfInBounds, if_neg hne]; exact q1, q2⟩
            · rw [hput, Array.getElem?_setIfInBounds, if_pos rfl, if_pos (by rw [hs.size]; exact htN)]
            · rw [heap_push, if_pos rfl]
          have hqk : q = k := by omega
          subst hqk
          rw [hG] at m5
          cases m5
          have hact' : ∀ (q' j : Nat), d.as[q']? = some j → (ls' j = true ↔ q' < q + 1) := fun q' j hj => by
            by_cases e : j = i
            · subst e
              have := runD_once hrun q q' j hqi hj
              subst this
              rw [hi']
              simp
            · rw [hj' j e, hact q' j hj]
              constructor
              · omega
              · intro h
                have hne : q' ≠ q := fun h2 => by
                  subst h2
                  rw [hqi] at hj
                  cases hj
                  exact e rfl
                omega
          have hql : q < d.as.length := (List.getElem?_eq_some_iff.1 hqi).1
          refine op_run hc hfr.ev hx.sr (Nat.le_trans hB hx.size) ((resO_congr (hop G)).trans m7) fun φ' v w' hv hx' => ?_
          have hF' := hF.put (u := v) h1 ho hn hli hl' hi' hj' hx'
          have hs' := hsl' φ' v hx'.le hv
          rcases hF' with hF' | ⟨f, hF'⟩
          · exact ih _ ls' (q + 1) H2 φ' _ w' hsz' hcnt' hcl' hact' (by omega) m6 (hx.trans hx') hs' (.inl hF')
          · by_cases hqp1 : q + 1 < p
            · exact ih _ ls' (q + 1) H2 φ' _ w' hsz' hcnt' hcl' hact' (by omega) m6 (hx.trans hx') hs' (.inr ⟨f, hqp1, hF'.pos, hF'.on, hF'.off, hF'.els, hF'.blk⟩)
            · -- what came early has its place now
              have hpe : q + 1 = p := by
                have := hF'.kp
                omega
              subst hpe
              obtain ⟨b, t, of, obj, e, z, n1, n2, n3, n4, n5, n6, n7, n8, n9⟩ := hF'.blk
              obtain ⟨_, o4, rc4, G1, G2, r1, r2, r3, r4, r5, r6, r7⟩ := hacts (q + 1) f hF'.pos
              rw [Nat.sub_zero, n1] at r1
              cases r1
              rw [Nat.sub_zero] at r2
              rw [m6] at r5
              cases r5
              obtain ⟨z', n', s1, s2, s3, s4, s5⟩ := resO_alloc n3 r7
              rw [n8] at s1
              cases s1
              subst s5
              have hxa := (hx.trans hx').adopt (l := ⟨b, 0, 1⟩) (a := .cells e false z) n5 n9 n6 n7 hB
              have hle := (hx.trans hx').sr.le_name (H := H2) ⟨b, 0, 1⟩
              have hpl : q + 1 < d.as.length := (List.getElem?_eq_some_iff.1 hF'.pos).1
              refine ih _ (fun j => (lst.setIfInBounds i true).getD j false) (q + 1 + 1) _ _ _ w' hsz' hcnt' hcl' (fun q' j hj => ?_) (by omega) r6 hxa ⟨hs'.size, hs'.defers, fun t' tv hno ht => ?_, fun j pj rj t' tv hl2 hp hrj hdt hv2 => ?_⟩ (.inl fun _ => rfl)
              · show (lst.setIfInBounds i true).getD j false = true ↔ _
                by_cases e1 : j = f
                · subst e1
                  have := runD_once hrun (q + 1) q' j hF'.pos hj
                  subst this
                  rw [hF'.on]
                  simp
                · rw [← hF'.els j e1, hact' q' j hj]
                  constructor
                  · omega
                  · intro h
                    have hne : q' ≠ q + 1 := fun h2 => by
                      subst h2
                      rw [hF'.pos] at hj
                      cases hj
                      exact e1 rfl
                    omega
              · obtain ⟨v', q1, q2⟩ := hs'.old t' tv (fun j pj hl2 hp => hno j pj (by
                  by_cases e1 : j = f
                  · rw [e1]; exact hF'.on
                  · rw [← hF'.els j e1]; exact hl2) hp) ht
                exact ⟨v', q1, hle.tv q2⟩
              · by_cases e1 : j = f
                · subst e1
                  rw [n1] at hp
                  cases hp
                  rw [n2] at hdt
                  cases hdt
                  rw [r2] at hrj
                  cases hrj
                  refine ⟨_, n4, ?_⟩
                  rw [s4] at hv2
                  cases hv2
                  simp only [ptrTV, tvV, svV, cvV, ptrV, name_same]
                · obtain ⟨v', q1, q2⟩ := hs'.new j pj rj t' tv (by rw [hF'.els j e1]; exact hl2) hp hrj hdt hv2
                  exact ⟨v', q1, hle.tv q2⟩
theorem drawD_ok (hc : CallOk P B call) (hm : P.follows .mixedOrders = true) : DrawOk P B (drawD P call) := by
  intro N ops T H T' H' h φ a w Q id hf sr hB hQ
  unfold drawD at h
  split at h
  · rename_i d hrun
    split at h
    · rename_i W hW
      split at h
      · rename_i hsl
        split at h
        · rename_i hs
          rw [befT_eq] at hs
          simp only [Bool.and_eq_true] at hs
          obtain ⟨_, hone, hWd⟩ := wrT_ok hW
          have hsl := slAllT_ok (fun j p d h1 h2 => by have := hWd j p d h1 h2; rwa [Nat.zero_add] at this) hsl
          cases h
          refine wp_region_any hm ?_
          have hz : ∀ j, (Array.replicate ops.size false).getD j false = false := fun j => by
            rw [Array.getD_eq_getD_getElem?, Array.getElem?_replicate]
            split <;> rfl
          have hcnt : ∀ n, cnt (fun i => !(Array.replicate ops.size false).getD i false) n = n := by
            intro n
            induction n with
            | zero => rfl
            | succ n ih =>
              rw [cnt, ih]
              simp only [hz]
              rfl
          refine drawn_any hc hrun hone hsl hs.1.1 hs.1.2 hs.2 (φ0 := φ) (w0 := w) hB hQ ops.size _ _ 0 H φ a _ (by simp) (hcnt _) (fun i o hi => by rw [hz] at hi; cases hi) (fun q j _ => by rw [hz]; simp) (Nat.zero_le _) rfl (Ext.drew sr) ?_ (.inl fun _ => rfl)
          refine ⟨hf.size, hf.defers, fun t tv _ ht => hf.fr t tv ht, fun i o rc t tv hl => ?_⟩
          have := hl
          simp only [hz] at this
          cases this
        · cases h
      · cases h
    · cases h
  · cases h
end
end Ev
end Go.Proofs.YtajhndakkaniaaaGreatDoor
