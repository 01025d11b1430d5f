/- The port and the document's port side by side (chapter 13): the plain law. -/
import Derived.Test.YthgkminjhpaakaaPoRl
import Derived.Test.YthgkminjhpaakaaPoF
namespace Go.Proofs.Ythgkminjhpaakaa
open Go.RowKit

def newM (room credits : Int) (trim : Bool) : Mp := ⟨room, credits, trim, fun _ => [], [], 0, 0, false⟩
theorem mnew_yes (room credits : Int) (trim : Bool) (w : World) (h : 0 ≤ room ∧ room ≤ 1073741824) (h2 : 0 ≤ credits ∧ credits ≤ 1073741824) : Calls Try.prog 18 #[.int .i64 room, .int .i64 credits, .bool trim] w fun e w' => ∃ m U uc, e = .returned (.tuple #[.pointer (some ⟨m, 0, none⟩), .int .i64 0]) ∧ Mo m U uc (newM room credits trim) w' ∧ Below w.heap.size w w' := by
  obtain ⟨h3, h4⟩ := h
  obtain ⟨h5, h6⟩ := h2
  go_enter Try.func18, Try.ntmps18
  go_wp2_with fail
  go_ret2
  refine ⟨_, fun _ => .slice none 0 0, .slice none 0 0, rfl, ⟨Ob.new _ _ _, fun i _ => ⟨.inl ⟨rfl, rfl, rfl⟩, fun a n c hv => (by cases hv)⟩, ⟨.inl ⟨rfl, rfl, rfl⟩, fun a n c hv => (by cases hv)⟩⟩, (Below.refl _ _).alloc (Nat.le_refl _) _⟩
theorem mnew_no (room credits : Int) (trim : Bool) (w : World) (h : ¬ ((0 ≤ room ∧ room ≤ 1073741824) ∧ 0 ≤ credits ∧ credits ≤ 1073741824)) : Calls Try.prog 18 #[.int .i64 room, .int .i64 credits, .bool trim] w fun e w' => e = .returned (.tuple #[.pointer none, .int .i64 1]) ∧ w = w' := by
  have hc : room < 0 ∨ (0 ≤ room ∧ 1073741824 < room) ∨ (0 ≤ room ∧ room ≤ 1073741824 ∧ credits < 0) ∨ (0 ≤ room ∧ room ≤ 1073741824 ∧ 0 ≤ credits ∧ 1073741824 < credits) := by omega
  clear h
  rcases hc with h | ⟨h, h1⟩ | ⟨h, h1, h2⟩ | ⟨h, h1, h2, h3⟩
  all_goals
    go_enter Try.func18, Try.ntmps18
    go_wp2_with fail
    go_ret2
    exact ⟨rfl, rfl⟩
theorem new_no (room credits : Int) (trim : Bool) (w : World) (h : ¬ ((0 ≤ room ∧ room ≤ 1073741824) ∧ 0 ≤ credits ∧ credits ≤ 1073741824)) : Calls Try.prog 9 #[.int .i64 room, .int .i64 credits, .bool trim] w fun e w' => e = .returned (.tuple #[.pointer none, .int .i64 1]) ∧ w = w' := by
  have hc : room < 0 ∨ (0 ≤ room ∧ 1073741824 < room) ∨ (0 ≤ room ∧ room ≤ 1073741824 ∧ credits < 0) ∨ (0 ≤ room ∧ room ≤ 1073741824 ∧ 0 ≤ credits ∧ 1073741824 < credits) := by omega
  clear h
  rcases hc with h | ⟨h, h1⟩ | ⟨h, h1, h2⟩ | ⟨h, h1, h2, h3⟩
  all_goals
    go_enter Try.func9, Try.ntmps9
    go_wp2_with fail
    go_ret2
    exact ⟨rfl, rfl⟩
inductive MPutRel (t : Mp) (x : It) : Int → Mp → Prop
  | full : x.kind = 11 → t.most ≤ t.C.length → MPutRel t x 3 t
  | cred : x.kind = 11 → (t.C.length : Int) < t.most → MPutRel t x 1 { t with C := t.C ++ [x] }
  | line (i : Nat) : x.kind ≠ 11 → i < 8 → clampI x.prio 0 7 = i → msum t.L 8 + x.bytes ≤ t.room → MPutRel t x 1 { t with L := upd t.L i (t.L i ++ [x]) }
  | drop : x.kind ≠ 11 → t.room < msum t.L 8 + x.bytes → (x.kind ≠ 1 ∨ t.trim = false ∨ t.room < msum t.L 8 + 26) → MPutRel t x 3 t
  | trim : x.kind = 1 → t.trim = true → t.room < msum t.L 8 + x.bytes → msum t.L 8 + 26 ≤ t.room → MPutRel t x 2 { t with L := upd t.L 7 (t.L 7 ++ [x.hdr 7]) }
theorem clamp_nat (v : Int) : ∃ i : Nat, i < 8 ∧ clampI v 0 7 = i := by
  refine ⟨(clampI v 0 7).toNat, ?_, ?_⟩
  · unfold clampI
    split
    · decide
    · split <;> omega
  · unfold clampI
    split
    · rfl
    · split <;> omega
theorem MoPost.same {m : Nat} {U : Nat → Value} {uc : Value} {t : Mp} {w w' : World} (h : Mo m U uc t w) (hb : Below w.heap.size w w') : MoPost m t w w' := ⟨U, uc, h.below hb, Kept.of_below hb⟩
theorem mput_any (m : Nat) (U : Nat → Value) (uc : Value) (t : Mp) (N : Nat) (x : It) (w : World) (h : Mo m U uc t w) (ho : t.ok N) (hN : N ≤ 100000) (hx : x.ok2) : Calls Try.prog 19 #[.pointer (some ⟨m, 0, none⟩), x.val] w fun e w' => ∃ r t', e = .returned (.int .i64 r) ∧ MoPost m t' w w' ∧ MPutRel t x r t' := by
  by_cases hk : x.kind = 11
  · have hkb : (x.kind == 11) = true := beq_iff_eq.2 hk
    by_cases hc : t.most ≤ (t.C.length : Int)
    · refine (mput_cfull m U uc t x w h hkb (decide_eq_true hc)).mono ?_
      rintro e w' ⟨rfl, hb⟩
      exact ⟨3, t, rfl, MoPost.same h hb, .full hk hc⟩
    · refine (mput_cred m U uc t x w h hkb (decide_eq_false hc) (Nat.le_trans ho.clen hN)).mono ?_
      rintro e w' ⟨rfl, hp⟩
      exact ⟨1, _, rfl, hp, .cred hk (by omega)⟩
  · have hkb : (x.kind == 11) = false := beq_eq_false_iff_ne.2 hk
    obtain ⟨i, hi, hc⟩ := clamp_nat x.prio
    by_cases hf : msum t.L 8 + x.bytes ≤ t.room
    · refine (mput_line m U uc t N i x w h ho hN hx hkb hi hc hf).mono ?_
      rintro e w' ⟨rfl, hp⟩
      exact ⟨1, _, rfl, hp, .line i hk hi hc hf⟩
    · cases ht : t.trim with
      | false =>
        refine (mput_drop m U uc t N i x w h ho hN hx hkb hc (by omega) (.inl ht)).mono ?_
        rintro e w' ⟨rfl, hb⟩
        exact ⟨3, t, rfl, MoPost.same h hb, .drop hk (by omega) (.inr (.inl ht))⟩
      | true =>
        by_cases hk1 : x.kind = 1
        · by_cases hf2 : msum t.L 8 + 26 ≤ t.room
          · refine (mput_trim m U uc t N i x w h ho hN hx hkb hc (by omega) ht hk1 hf2).mono ?_
            rintro e w' ⟨rfl, hp⟩
            exact ⟨2, _, rfl, hp, .trim hk1 ht (by omega) hf2⟩
          · refine (mput_trimno m U uc t N i x w h ho hN hx hkb hc (by omega) ht hk1 (by omega)).mono ?_
            rintro e w' ⟨rfl, hb⟩
            exact ⟨3, t, rfl, MoPost.same h hb, .drop hk (by omega) (.inr (.inr (by omega)))⟩
        · refine (mput_drop m U uc t N i x w h ho hN hx hkb hc (by omega) (.inr ⟨ht, hk1⟩)).mono ?_
          rintro e w' ⟨rfl, hb⟩
          exact ⟨3, t, rfl, MoPost.same h hb, .drop hk (by omega) (.inl hk1)⟩
structure Sim (p : Pp) (t : Mp) : Prop where
  room : t.room = p.room
  most : t.most = p.most
  trim : t.trim = p.trim
  L : ∀ i, i < 8 → Like (p.L i) (t.L i)
  C : Like p.C t.C
  pnow : 0 ≤ p.now
  now : t.now = min p.now 1125899906842624
  e : p.pc.e = 4
  ever : t.ever = p.pc.v
  last : t.last = p.pc.l
  n : p.pc.n ≤ t.now
  pok : p.pc.ok
theorem like_bsum : ∀ {Y W : List It}, Like Y W → (∀ x ∈ W, x.ok2) → sumZ Y = bsum W
  | [], [], _, _ => rfl
  | [], _ :: _, h, _ => by simp [Like] at h
  | _ :: _, [], h, _ => by simp [Like] at h
  | y :: Y, x :: W, h, ho => by
    have h1 : y.plain = x.plain ∧ Like Y W := by
      unfold Like at h ⊢
      simpa using h
    rw [sumZ_cons, It.sz_plain h1.1, (ho x List.mem_cons_self).sz, like_bsum h1.2 fun z hz => ho z (List.mem_cons_of_mem _ hz)]
    simp [bsum]
theorem Sim.sum {p : Pp} {t : Mp} {N M : Nat} (h : Sim p t) (hp : p.ok N) (ht : t.ok M) : p.u = msum t.L 8 := by
  have key : ∀ i, i < 8 → sumZ (p.L i) = bsum (t.L i) := fun i hi => like_bsum (h.L i hi) fun x hx => ht.items x (.inr ⟨i, hi, hx⟩)
  rw [hp.sum]
  unfold usum
  rw [key 0 (by decide), key 1 (by decide), key 2 (by decide), key 3 (by decide), key 4 (by decide), key 5 (by decide), key 6 (by decide), key 7 (by decide)]
  simp [msum]
theorem Like.snoc {Y W : List It} (h : Like Y W) {y x : It} (hy : y.plain = x.plain) : Like (Y ++ [y]) (W ++ [x]) := by
  unfold Like at *
  rw [List.map_append, List.map_append, h]
  simp [hy]
theorem hdr_plain {x x' : It} (h : x.plain = x'.plain) : (x.hdr 7).plain = (x'.hdr 7).plain := by
  have h1 : (x.plain.hdr 7).plain = (x'.plain.hdr 7).plain := by rw [h]
  exact h1
theorem ok2_plain {x x' : It} (h : x.plain = x'.plain) (hx : x'.ok2) : x.ok2 := by
  have h1 : x.dn = x'.dn := show x.plain.dn = x'.plain.dn from congrArg It.dn h
  have h2 : x.len = x'.len := show x.plain.len = x'.plain.len from congrArg It.len h
  exact ⟨by rw [h1]; exact hx.dn, by rw [h2]; exact hx.len⟩
theorem Sim.lineL {p : Pp} {t : Mp} (h : Sim p t) {i : Nat} {l l' : List It} (hl : Like l l') (u : Int) : Sim { p with u := u, L := upd p.L i l } { t with L := upd t.L i l' } := by
  refine ⟨h.room, h.most, h.trim, fun j hj => ?_, h.C, h.pnow, h.now, h.e, h.ever, h.last, h.n, h.pok⟩
  show Like (upd p.L i l j) (upd t.L i l' j)
  by_cases hji : j = i
  · subst hji; rw [upd_same, upd_same]; exact hl
  · rw [upd_other _ _ hji, upd_other _ _ hji]; exact h.L j hj
theorem Sim.cred {p : Pp} {t : Mp} (h : Sim p t) {C C' : List It} (hl : Like C C') : Sim { p with C := C } { t with C := C' } :=
  ⟨h.room, h.most, h.trim, h.L, hl, h.pnow, h.now, h.e, h.ever, h.last, h.n, h.pok⟩
theorem Sim.put {p p' : Pp} {t t' : Mp} {N M : Nat} {x x' : It} {r r' : Int} (h : Sim p t) (hp : p.ok N) (ht : t.ok M) (hx : x.plain = x'.plain) (hx' : x'.ok2) (h1 : PutRel p x r p') (h2 : MPutRel t x' r' t') : r = r' ∧ Sim p' t' := by
  have hk : x.kind = x'.kind := show x.plain.kind = x'.plain.kind from congrArg It.kind hx
  have hpr : x.prio = x'.prio := show x.plain.prio = x'.plain.prio from congrArg It.prio hx
  have hs : x.sz = x'.bytes := by rw [It.sz_plain hx]; exact hx'.sz
  have hu := h.sum hp ht
  have hC := h.C.len
  have hm := h.most
  have hr := h.room
  have htr := h.trim
  cases h1 with
  | full a1 a2 =>
    cases h2 with
    | full b1 b2 => exact ⟨rfl, h⟩
    | cred b1 b2 => omega
    | line i b1 _ _ _ => exact absurd (hk ▸ a1) b1
    | drop b1 _ _ => exact absurd (hk ▸ a1) b1
    | trim b1 _ _ _ => omega
  | cred y a1 a2 a3 =>
    cases h2 with
    | full b1 b2 => omega
    | cred b1 b2 => exact ⟨rfl, h.cred (h.C.snoc (a3.trans hx))⟩
    | line i b1 _ _ _ => exact absurd (hk ▸ a1) b1
    | drop b1 _ _ => exact absurd (hk ▸ a1) b1
    | trim b1 _ _ _ => omega
  | line y i a1 a2 a3 a4 a5 =>
    cases h2 with
    | full b1 b2 => exact absurd (hk.trans b1) a1
    | cred b1 b2 => exact absurd (hk.trans b1) a1
    | line j b1 b2 b3 b4 =>
      have hij : i = j := by rw [hpr] at a3; omega
      subst hij
      exact ⟨rfl, h.lineL ((h.L i a2).snoc (a5.trans hx)) _⟩
    | drop b1 b2 b3 => omega
    | trim b1 b2 b3 b4 => omega
  | drop a1 a2 a3 =>
    cases h2 with
    | full b1 b2 => exact absurd (hk.trans b1) a1
    | cred b1 b2 => exact absurd (hk.trans b1) a1
    | line j b1 b2 b3 b4 => omega
    | drop b1 b2 b3 => exact ⟨rfl, h⟩
    | trim b1 b2 b3 b4 =>
      rcases a3 with a3 | a3 | a3
      · exact absurd (hk.trans b1) a3
      · rw [htr, a3] at b2; cases b2
      · omega
  | trim a1 a2 a3 a4 =>
    cases h2 with
    | full b1 b2 => omega
    | cred b1 b2 => omega
    | line j b1 b2 b3 b4 => omega
    | drop b1 b2 b3 =>
      rcases b3 with b3 | b3 | b3
      · exact absurd (hk ▸ a1) b3
      · rw [htr, a2] at b3; cases b3
      · omega
    | trim b1 b2 b3 b4 => exact ⟨rfl, h.lineL ((h.L 7 (by decide)).snoc (hdr_plain hx)) _⟩
end Go.Proofs.Ythgkminjhpaakaa
