/- A port (chapter 13): what it is in memory; New; credits put. -/
import Derived.Test.YtoihhidoafgoaaaPoQ2
import Derived.Test.YtoihhidoafgoaaaPacer
namespace Go.Proofs.Ytoihhidoafgoaaa
open Go.RowKit

abbrev TPt : TypeId := 115
structure Pp where
  most : Int
  trim : Bool
  now : Int
  pc : Pc
  C : List It
  room : Int
  u : Int
  L : Nat → List It
structure Pl where
  q : Nat
  pb : Nat
  v : Value
  V : Nat → Value
def ptcells (l : Pl) (p : Pp) : Array Value := #[.pointer (some ⟨l.q, 0, none⟩), l.v, .int .i64 p.most, .bool p.trim, .int .i64 p.now, .pointer (some ⟨l.pb, 0, none⟩)]
def Pp.has (p : Pp) (x : It) : Prop := x ∈ p.C ∨ ∃ i, i < 8 ∧ x ∈ p.L i
def Da (B0 : Nat) (w : World) (x : It) : Prop := w.ownsRow B0 TU 1 (.slice x.da x.dn x.dc) x.dn (bcells x.bs)
structure Po (b B0 : Nat) (l : Pl) (p : Pp) (w : World) : Prop where
  ob : Ob w b (ptcells l p) TPt
  own : w.ownsRow B0 TIt 11 l.v p.C.length (p.C.flatMap It.row)
  pc : PcI l.pb p.pc w
  qu : Qu l.q B0 l.V p.room p.u p.L w
  base : B0 ≤ b
  pbase : B0 ≤ l.pb
  pok : p.pc.ok
  data : ∀ x, p.has x → Da B0 w x
def PM (b : Nat) (l : Pl) : Nat → Prop := fun x => x = b ∨ x = l.pb ∨ l.v.ownBlock = some x ∨ QM l.q l.V x
/-- the type of a block -/
def Ty (w : World) (g : Nat) (T : TypeId) : Prop := ∃ cs, w.heap[g]? = some (.cells cs T (0, 0))
theorem Ty.one {w : World} {g : Nat} {T T' : TypeId} (h : Ty w g T) (h' : Ty w g T') : T = T' := by
  obtain ⟨a, h⟩ := h
  obtain ⟨c, h'⟩ := h'
  rw [h] at h'
  cases h'
  rfl
theorem Ob.ty {w : World} {b : Nat} {cs : Array Value} {T : TypeId} (h : Ob w b cs T) : Ty w b T := ⟨cs, h⟩
theorem own_ty {w : World} {B : Nat} {e : TypeId} {k : Nat} {v : Value} {n : Nat} {xs : List Value} (h : w.ownsRow B e k v n xs) {g : Nat} (hg : v.ownBlock = some g) : Ty w g e := by
  rcases h.2 with ⟨h1, _⟩ | ⟨g', cap, cur, hv, _, hh, _⟩
  · rw [h1] at hg; cases hg
  · rw [hv] at hg
    cases hg
    exact ⟨cur, hh⟩
theorem Qu.ty {b B0 : Nat} {V : Nat → Value} {room u : Int} {L : Nat → List It} {w : World} (h : Qu b B0 V room u L w) {x : Nat} (hx : QM b V x) : Ty w x 138 ∨ Ty w x 142 := by
  rcases hx with rfl | ⟨i, hi, hx⟩
  · exact .inl h.ob.ty
  · exact .inr (own_ty (h.own i hi) hx)
section
variable {b B0 : Nat} {l : Pl} {p : Pp} {w w' : World} {M : Nat → Prop}
theorem Po.ty (h : Po b B0 l p w) {x : Nat} (hx : PM b l x) : ∃ T, Ty w x T ∧ T ≠ TU := by
  rcases hx with rfl | rfl | hx | hx
  · exact ⟨_, h.ob.ty, by decide⟩
  · exact ⟨_, Ob.ty h.pc, by decide⟩
  · exact ⟨_, own_ty h.own hx, by decide⟩
  · rcases h.qu.ty hx with h | h
    · exact ⟨_, h, by decide⟩
    · exact ⟨_, h, by decide⟩
theorem Da.kept {x : It} (h : Da B0 w x) (hk : Kept M w w') (hM : ∀ g, (Value.slice x.da x.dn x.dc).ownBlock = some g → ¬ M g) : Da B0 w' x := own_kept h hk hM
theorem Da.keptT {x : It} (h : Da B0 w x) (hk : Kept M w w') (hM : ∀ g, M g → g < w.heap.size → ∃ T, Ty w g T ∧ T ≠ TU) : Da B0 w' x := by
  refine own_kept h hk fun g hg hm => ?_
  obtain ⟨T, h1, h2⟩ := hM g hm (h.lt g hg).2
  exact h2 (h1.one (own_ty h hg))
theorem Po.kept (h : Po b B0 l p w) (hk : Kept M w w') (hM : ∀ x, PM b l x → ¬ M x) (hT : ∀ g, M g → g < w.heap.size → ∃ T, Ty w g T ∧ T ≠ TU) : Po b B0 l p w' :=
  ⟨h.ob.kept hk (hM b (.inl rfl)), own_kept h.own hk fun x hx => hM x (.inr (.inr (.inl hx))), Ob.kept h.pc hk (hM _ (.inr (.inl rfl))), h.qu.kept hk fun x hx => hM x (.inr (.inr (.inr hx))), h.base, h.pbase, h.pok, fun x hx => (h.data x hx).keptT hk hT⟩
theorem Po.keptF (h : Po b B0 l p w) (hk : Kept (fun _ => False) w w') : Po b B0 l p w' := h.kept hk (fun _ _ hh => hh) (fun _ hh => hh.elim)
theorem Po.below (h : Po b B0 l p w) (hk : Below w.heap.size w w') : Po b B0 l p w' := h.keptF (Kept.of_below hk)
/-- what a call leaves -/
def PoPost (b B0 : Nat) (l : Pl) (p' : Pp) (w w' : World) : Prop := ∃ l', Po b B0 l' p' w' ∧ Kept (PM b l) w w' ∧ ∀ x, PM b l' x → PM b l x ∨ w.heap.size ≤ x
theorem PoPost.same (h : Po b B0 l p w) (hb : Below w.heap.size w w') : PoPost b B0 l p w w' := ⟨l, h.below hb, Kept.of_below hb, fun _ hh => .inl hh⟩
/-- the credits are others -/
theorem Po.cred (h : Po b B0 l p w) {v' : Value} {C' : List It} (hk : Kept (Lm l.v) w w') (hown : w'.ownsRow B0 TIt 11 v' C'.length (C'.flatMap It.row)) (hb : v'.ownBlock = l.v.ownBlock ∨ ∀ x, v'.ownBlock = some x → w.heap.size ≤ x) (hd : ∀ x, x ∈ C' → x ∈ p.C ∨ Da B0 w' x) : Po b B0 { l with v := v' } { p with C := C' } (w'.setCell ⟨b, 1, none⟩ v') ∧ Kept (PM b l) w (w'.setCell ⟨b, 1, none⟩ v') ∧ ∀ x, PM b { l with v := v' } x → PM b l x ∨ w.heap.size ≤ x := by
  have hLm : ∀ g, Lm l.v g → Ty w g TIt := fun g hg => own_ty h.own hg
  have hvb : ∀ g T, Ty w g T → T ≠ TIt → v'.ownBlock ≠ some g := by
    intro g T hT hne he
    rcases hb with hb | hb
    · rw [hb] at he
      exact hne (hT.one (hLm g he))
    · have := hb g he
      obtain ⟨cs, hT⟩ := hT
      have := heap_lt hT
      omega
  have hbM : ¬ Lm l.v b := fun hh => absurd ((hLm b hh).one h.ob.ty) (by decide)
  have hpM : ¬ Lm l.v l.pb := fun hh => absurd ((hLm _ hh).one (Ob.ty h.pc)) (by decide)
  have hbp : l.pb ≠ b := fun hh => absurd (Ty.one (hh ▸ Ob.ty h.pc) h.ob.ty) (by decide)
  have hqM : ∀ x, QM l.q l.V x → ¬ Lm l.v x := fun x hx hh => by
    rcases h.qu.ty hx with h2 | h2
    · exact absurd (h2.one (hLm x hh)) (by decide)
    · exact absurd (h2.one (hLm x hh)) (by decide)
  have hqb : ∀ x, QM l.q l.V x → ¬ Only b x := fun x hx hh => by
    have : x = b := hh
    subst this
    rcases h.qu.ty hx with h2 | h2
    · exact absurd (h2.one h.ob.ty) (by decide)
    · exact absurd (h2.one h.ob.ty) (by decide)
  have hkb : Kept (Only b) w' (w'.setCell ⟨b, 1, none⟩ v') := (Kept.refl _ _).setO
  have hs := hk.size
  refine ⟨⟨(h.ob.kept hk hbM).set 1 _, ownsRow_setCell_other hown (a := ⟨b, 1, none⟩) (hvb b _ h.ob.ty (by decide)) _, Ob.other (Ob.kept h.pc hk hpM) _ _ hbp, (h.qu.kept hk hqM).kept hkb hqb, h.base, h.pbase, h.pok, fun x hx => ?_⟩, ?_, fun x hx => ?_⟩
  · have key : Da B0 w' x := by
      rcases hx with hx | hx
      · rcases hd x hx with hx | hx
        · exact (h.data x (.inl hx)).keptT hk fun g hg _ => ⟨_, hLm g hg, by decide⟩
        · exact hx
      · exact (h.data x (.inr hx)).keptT hk fun g hg _ => ⟨_, hLm g hg, by decide⟩
    exact key.keptT hkb fun g hg _ => ⟨TPt, by rw [show g = b from hg]; exact (h.ob.kept hk hbM).ty, by decide⟩
  · exact (hk.mono fun y _ hy => .inr (.inr (.inl hy))).set _ _ fun _ => .inl rfl
  · rcases hx with hx | hx | hx | hx
    · exact .inl (.inl hx)
    · exact .inl (.inr (.inl hx))
    · rcases hb with hb | hb
      · exact .inl (.inr (.inr (.inl (hb ▸ hx))))
      · exact .inr (hb x hx)
    · exact .inl (.inr (.inr (.inr hx)))
end
theorem pc4_ok : (⟨4, 0, 0, false⟩ : Pc).ok := ⟨by decide, by decide, by decide, by decide, by decide, by decide⟩
def newP (room credits : Int) (trim : Bool) : Pp := ⟨credits, trim, 0, ⟨4, 0, 0, false⟩, [], room, 0, fun _ => []⟩
def NewPt (room credits : Int) (trim : Bool) (w : World) (e : Ending) (w' : World) : Prop := ∃ b l, e = .returned (.tuple #[.pointer (some ⟨b, 0, none⟩), .int .i64 0]) ∧ Po b w.heap.size l (newP room credits trim) w' ∧ Below w.heap.size w w'
theorem new_pt (room credits : Int) (trim : Bool) (w : World) (h : 0 ≤ room ∧ room ≤ 1073741824) (h2 : 0 ≤ credits ∧ credits ≤ 1073741824) : Calls Try.prog 32 #[.int .i64 room, .int .i64 credits, .bool trim] w (NewPt room credits trim w) := by
  obtain ⟨h3, h4⟩ := h
  obtain ⟨h5, h6⟩ := h2
  go_enter Try.func32, Try.ntmps32
  go_wp2_with fail
  refine (qnew_yes room w ⟨h3, by omega⟩).mono ?_
  rintro e w1 ⟨rfl, hq1, hb1⟩
  have HQ := Lib.hid hq1
  have HB := Lib.hid hb1
  have s1 := hq1.ob.lt
  clear hq1 hb1
  go_wp2_with fail
  refine (pnew_yes 4 _ (by omega)).mono ?_
  rintro e w2 ⟨rfl, hp2, hb2⟩
  have HP := Lib.hid hp2
  have HQ2 := Lib.hid (HQ.out.below hb2)
  have HB2 := Lib.hid (HB.out.trans (hb2.mono HB.out.size))
  have hs2 := hb2.size
  have hs1 := HB.out.size
  clear hp2 hb2
  go_wp2_with fail
  go_ret2
  refine ⟨_, ⟨w.heap.size, w1.heap.size, .slice none 0 0, fun _ => .slice none 0 0⟩, rfl, ⟨Ob.new _ _ _, ?_, Ob.alloc HP.out _, HQ2.out.alloc _, by omega, hs1, pc4_ok, fun x hx => ?_⟩, HB2.out.alloc (by omega) _⟩
  · exact World.ownsRow_nil _ _ _ _
  · rcases hx with hx | ⟨i, _, hx⟩
    · cases hx
    · cases hx
theorem put_nil (x : It) (w : World) : Calls Try.prog 38 #[.pointer none, x.val] w fun e w' => e = .returned (.int .i64 3) ∧ Below w.heap.size w w' := by
  unfold It.val
  go_enter Try.func38, Try.ntmps38
  go_wp2_with fail
  go_ret
  exact ⟨rfl, (Below.refl _ _).alloc (Nat.le_refl _) _⟩
end Go.Proofs.Ytoihhidoafgoaaa
