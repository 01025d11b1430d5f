/- The fabric (chapter 15): what it is in memory. -/
import Derived.Test.YtoihhidoafgoaaaMA
import Derived.Test.YtoihhidoafgoaaaMD
namespace Go.Proofs.Ytoihhidoafgoaaa
open Go.RowKit

abbrev TFa : TypeId := 72
abbrev TPp : TypeId := 73
abbrev TFl : TypeId := 63
def It.fro (x : It) : List Value := [.int .i64 x.kind, .int .i64 x.src, .int .i64 x.dst, .int .i64 x.prio, .int .u64 x.msg, .int .i64 x.off, .int .i64 x.len, .int .i64 x.total, .int .i64 x.num, .slice x.da x.dn x.dc]
theorem rowFr (x : It) : x.fro.length = 10 := rfl
theorem one_frrows (l : List It) : ∀ u ∈ l.flatMap It.fro, u.oneCell' = true := by
  intro u hu
  obtain ⟨x, _, hx⟩ := List.mem_flatMap.1 hu
  simp [It.fro] at hx
  rcases hx with rfl | rfl | rfl | rfl | rfl | rfl | rfl | rfl | rfl | rfl <;> rfl
structure Fs where
  H : Nat
  S : Nat
  P : Nat → Pp
  A : Nat → List It
  lost : Int
structure Fl where
  nb : Nat
  pg : Nat
  pc : Nat
  ag : Nat
  b : Nat → Nat
  l : Nat → Pl
  V : Nat → Value
def ptrV (b : Nat → Nat) (i : Nat) : Value := .pointer (some ⟨b i, 0, none⟩)
def facells (l : Fl) (s : Fs) : Array Value := #[.pointer (some ⟨l.nb, 0, none⟩), .slice (some ⟨l.pg, 0, none⟩) (nP s.H s.S) l.pc, .slice (some ⟨l.ag, 0, none⟩) s.H s.H, .int .i64 s.lost]
structure Fa (f B0 : Nat) (l : Fl) (s : Fs) (w : World) : Prop where
  ob : Ob w f (facells l s) TFa
  net : Ni l.nb s.H s.S w
  hs : Hs s.H s.S
  prt : w.ownsRow B0 TPp 1 (.slice (some ⟨l.pg, 0, none⟩) (nP s.H s.S) l.pc) (nP s.H s.S) ((List.range (nP s.H s.S)).map (ptrV l.b))
  arr : w.ownsRow B0 TFl 1 (.slice (some ⟨l.ag, 0, none⟩) s.H s.H) s.H ((List.range s.H).map l.V)
  rows : ∀ h, h < s.H → w.ownsRow B0 TFr 10 (l.V h) (s.A h).length ((s.A h).flatMap It.fro)
  rapart : ∀ h h' g, h < s.H → h' < s.H → (l.V h).ownBlock = some g → (l.V h').ownBlock = some g → h = h'
  po : ∀ i, i < nP s.H s.S → Po (l.b i) B0 (l.l i) (s.P i) w
  papart : ∀ i j x, i < nP s.H s.S → j < nP s.H s.S → PM (l.b i) (l.l i) x → PM (l.b j) (l.l j) x → i = j
  data : ∀ h x, h < s.H → x ∈ s.A h → Da B0 w x
  base : B0 ≤ f
  nbase : B0 ≤ l.nb
def FM (f : Nat) (l : Fl) (s : Fs) : Nat → Prop := fun x => x = f ∨ x = l.nb ∨ x = l.pg ∨ x = l.ag ∨ (∃ h, h < s.H ∧ (l.V h).ownBlock = some x) ∨ ∃ i, i < nP s.H s.S ∧ PM (l.b i) (l.l i) x
theorem Kept.trans2 {M N : Nat → Prop} {a b c : World} (h : Kept M a b) (k : Kept N b c) (hN : ∀ x, x < a.heap.size → N x → M x) : Kept M a c :=
  ⟨k.os.trans h.os, k.tape.trans h.tape, k.output.trans h.output, Nat.le_trans h.size k.size, fun x hx hn => (k.block x (Nat.lt_of_lt_of_le hx h.size) fun hh => hn (hN x hx hh)).trans (h.block x hx hn)⟩
theorem Po.pty {b B0 : Nat} {l : Pl} {p : Pp} {w : World} (h : Po b B0 l p w) {x : Nat} (hx : PM b l x) : ∃ T, Ty w x T ∧ (T = TPt ∨ T = 140 ∨ T = TIt ∨ T = 138 ∨ T = 142) := by
  rcases hx with rfl | rfl | hx | hx
  · exact ⟨_, h.ob.ty, by decide⟩
  · exact ⟨_, Ob.ty h.pc, by decide⟩
  · exact ⟨_, own_ty h.own hx, by decide⟩
  · rcases h.qu.ty hx with h | h
    · exact ⟨_, h, by decide⟩
    · exact ⟨_, h, by decide⟩
def FTy (T : TypeId) : Prop := T = TFa ∨ T = TNet ∨ T = TPp ∨ T = TFl ∨ T = TFr ∨ T = TPt ∨ T = 140 ∨ T = TIt ∨ T = 138 ∨ T = 142
section
variable {f B0 : Nat} {l : Fl} {s : Fs} {w w' : World} {M : Nat → Prop}
theorem Fa.tys (h : Fa f B0 l s w) {x : Nat} (hx : FM f l s x) : ∃ T, Ty w x T ∧ FTy T := by
  rcases hx with rfl | rfl | rfl | rfl | ⟨k, hk, hx⟩ | ⟨i, hi, hx⟩
  · exact ⟨_, h.ob.ty, by unfold FTy; decide⟩
  · exact ⟨_, Ob.ty h.net, by unfold FTy; decide⟩
  · exact ⟨_, own_ty h.prt rfl, by unfold FTy; decide⟩
  · exact ⟨_, own_ty h.arr rfl, by unfold FTy; decide⟩
  · exact ⟨_, own_ty (h.rows k hk) hx, by unfold FTy; decide⟩
  · obtain ⟨T, h1, h2⟩ := (h.po i hi).pty hx
    refine ⟨T, h1, ?_⟩
    unfold FTy
    rcases h2 with rfl | rfl | rfl | rfl | rfl <;> decide
theorem FTy.nu {T : TypeId} (h : FTy T) : T ≠ TU := by
  unfold FTy at h
  rcases h with rfl | rfl | rfl | rfl | rfl | rfl | rfl | rfl | rfl | rfl <;> decide
theorem Fa.ty (h : Fa f B0 l s w) {x : Nat} (hx : FM f l s x) : ∃ T, Ty w x T ∧ T ≠ TU := by
  obtain ⟨T, h1, h2⟩ := h.tys hx
  exact ⟨T, h1, h2.nu⟩
theorem Fa.ge (h : Fa f B0 l s w) {x : Nat} (hx : FM f l s x) : B0 ≤ x := by
  rcases hx with rfl | rfl | rfl | rfl | ⟨k, hk, hx⟩ | ⟨i, hi, hx⟩
  · exact h.base
  · exact h.nbase
  · exact (h.prt.lt _ rfl).1
  · exact (h.arr.lt _ rfl).1
  · exact ((h.rows k hk).lt _ hx).1
  · have hp := h.po i hi
    rcases hx with rfl | rfl | hx | hx | ⟨q, hq, hx⟩
    · exact hp.base
    · exact hp.pbase
    · exact (hp.own.lt _ hx).1
    · rw [hx]; exact hp.qu.base
    · exact ((hp.qu.own q hq).lt _ hx).1
theorem Fa.lt (h : Fa f B0 l s w) {x : Nat} (hx : FM f l s x) : x < w.heap.size := by
  obtain ⟨T, ⟨cs, h1⟩, _⟩ := h.tys hx
  exact heap_lt h1
theorem Fa.kept (h : Fa f B0 l s w) (hk : Kept M w w') (hM : ∀ x, FM f l s x → ¬ M x) (hT : ∀ g, M g → g < w.heap.size → ∃ T, Ty w g T ∧ T ≠ TU) : Fa f B0 l s w' where
  ob := h.ob.kept hk (hM f (.inl rfl))
  net := Ob.kept h.net hk (hM _ (.inr (.inl rfl)))
  hs := h.hs
  prt := own_kept h.prt hk fun x hx => by cases hx; exact hM _ (.inr (.inr (.inl rfl)))
  arr := own_kept h.arr hk fun x hx => by cases hx; exact hM _ (.inr (.inr (.inr (.inl rfl))))
  rows := fun k hk2 => own_kept (h.rows k hk2) hk fun x hx => hM x (.inr (.inr (.inr (.inr (.inl ⟨k, hk2, hx⟩)))))
  rapart := h.rapart
  po := fun i hi => (h.po i hi).kept hk (fun x hx => hM x (.inr (.inr (.inr (.inr (.inr ⟨i, hi, hx⟩)))))) hT
  papart := h.papart
  data := fun k x hk2 hx => (h.data k x hk2 hx).keptT hk hT
  base := h.base
  nbase := h.nbase
theorem Fa.keptF (h : Fa f B0 l s w) (hk : Kept (fun _ => False) w w') : Fa f B0 l s w' := h.kept hk (fun _ _ hh => hh) (fun _ hh => hh.elim)
theorem Fa.below (h : Fa f B0 l s w) (hk : Below w.heap.size w w') : Fa f B0 l s w' := h.keptF (Kept.of_below hk)
theorem Fa.dn (h : Fa f B0 l s w) (n : Nat) : Fa f B0 l s (w.drewN n) := h.keptF (Kept.dn _ _ _)
/-- what a call leaves -/
def FaPost (f B0 : Nat) (l : Fl) (s s' : Fs) (w w' : World) : Prop := ∃ l', Fa f B0 l' s' w' ∧ Kept (FM f l s) w w' ∧ ∀ x, FM f l' s' x → FM f l s x ∨ w.heap.size ≤ x
theorem FaPost.same (h : Fa f B0 l s w) (hb : Below w.heap.size w w') : FaPost f B0 l s s w w' := ⟨l, h.below hb, Kept.of_below hb, fun _ hh => .inl hh⟩
theorem FaPost.before {w1 : World} {s' : Fs} (h : FaPost f B0 l s s' w1 w') (hb : Below w.heap.size w w1) : FaPost f B0 l s s' w w' := by
  obtain ⟨l', h1, h2, h3⟩ := h
  exact ⟨l', h1, (Kept.of_below hb).trans h2, fun x hx => (h3 x hx).imp id fun hh => Nat.le_trans hb.size hh⟩
theorem FaPost.after {w1 : World} {s' : Fs} (h : FaPost f B0 l s s' w w1) (hb : Below w1.heap.size w1 w') : FaPost f B0 l s s' w w' := by
  obtain ⟨l', h1, h2, h3⟩ := h
  exact ⟨l', h1.below hb, h2.trans (Kept.of_below hb), h3⟩
/-- one port is another -/
theorem Fa.port (h : Fa f B0 l s w) {i : Nat} (hi : i < nP s.H s.S) {p' : Pp} (hp : PoPost (l.b i) B0 (l.l i) p' w w') : ∃ li, Fa f B0 { l with l := upd l.l i li } { s with P := upd s.P i p' } w' ∧ Kept (FM f l s) w w' ∧ Kept (PM (l.b i) (l.l i)) w w' ∧ ∀ x, FM f { l with l := upd l.l i li } { s with P := upd s.P i p' } x → FM f l s x ∨ w.heap.size ≤ x := by
  obtain ⟨li, h1, h2, h3⟩ := hp
  have hpt : ∀ {x : Nat} {T : TypeId}, PM (l.b i) (l.l i) x → Ty w x T → (T = TFa ∨ T = TNet ∨ T = TPp ∨ T = TFl ∨ T = TFr) → False := fun hx hT hh => by
    obtain ⟨T', h4, h5⟩ := (h.po i hi).pty hx
    cases h4.one hT
    rcases h5 with rfl | rfl | rfl | rfl | rfl <;> exact absurd hh (by decide)
  have hT : ∀ g, PM (l.b i) (l.l i) g → g < w.heap.size → ∃ T, Ty w g T ∧ T ≠ TU := fun g hg _ => (h.po i hi).ty hg
  refine ⟨li, ?_, h2.mono fun x _ hx => .inr (.inr (.inr (.inr (.inr ⟨i, hi, hx⟩)))), h2, ?_⟩
  · refine ⟨h.ob.kept h2 fun hh => hpt hh h.ob.ty (.inl rfl), Ob.kept h.net h2 fun hh => hpt hh (Ob.ty h.net) (.inr (.inl rfl)), h.hs, own_kept h.prt h2 fun x hx hh => hpt hh (own_ty h.prt hx) (.inr (.inr (.inl rfl))), own_kept h.arr h2 fun x hx hh => hpt hh (own_ty h.arr hx) (.inr (.inr (.inr (.inl rfl)))), fun k hk => own_kept (h.rows k hk) h2 fun x hx hh => hpt hh (own_ty (h.rows k hk) hx) (.inr (.inr (.inr (.inr rfl)))), h.rapart, fun j hj => ?_, fun j k x hj hk hx hx' => ?_, fun k x hk hx => (h.data k x hk hx).keptT h2 hT, h.base, h.nbase⟩
    · by_cases e : j = i
      · subst e
        show Po (l.b j) B0 (upd l.l j li j) (upd s.P j p' j) w'
        rw [upd_same, upd_same]
        exact h1
      · show Po (l.b j) B0 (upd l.l i li j) (upd s.P i p' j) w'
        rw [upd_other _ _ e, upd_other _ _ e]
        exact (h.po j hj).kept h2 (fun x hx hx' => e (h.papart j i x hj hi hx hx')) hT
    · have key : ∀ q, q < nP s.H s.S → PM (l.b q) (upd l.l i li q) x → PM (l.b q) (l.l q) x ∨ (q = i ∧ w.heap.size ≤ x) := fun q _ hq => by
        by_cases e : q = i
        · subst e
          rw [upd_same] at hq
          exact (h3 x hq).imp id fun hh => ⟨rfl, hh⟩
        · rw [upd_other _ _ e] at hq
          exact .inl hq
      have lt : ∀ q, q < nP s.H s.S → PM (l.b q) (l.l q) x → x < w.heap.size := fun q hq hx => h.lt (.inr (.inr (.inr (.inr (.inr ⟨q, hq, hx⟩)))))
      rcases key j hj hx with h4 | ⟨rfl, h4⟩
      · rcases key k hk hx' with h5 | ⟨rfl, h5⟩
        · exact h.papart j k x hj hk h4 h5
        · have := lt j hj h4; omega
      · rcases key k hk hx' with h5 | ⟨rfl, h5⟩
        · have := lt k hk h5; omega
        · rfl
  · intro x hx
    rcases hx with hx | hx | hx | hx | hx | ⟨j, hj, hx⟩
    · exact .inl (.inl hx)
    · exact .inl (.inr (.inl hx))
    · exact .inl (.inr (.inr (.inl hx)))
    · exact .inl (.inr (.inr (.inr (.inl hx))))
    · exact .inl (.inr (.inr (.inr (.inr (.inl hx)))))
    · by_cases e : j = i
      · subst e
        have hx : PM (l.b j) (upd l.l j li j) x := hx
        rw [upd_same] at hx
        exact (h3 x hx).imp (fun hh => .inr (.inr (.inr (.inr (.inr ⟨j, hi, hh⟩))))) id
      · have hx : PM (l.b j) (upd l.l i li j) x := hx
        rw [upd_other _ _ e] at hx
        exact .inl (.inr (.inr (.inr (.inr (.inr ⟨j, hj, hx⟩)))))
/-- what is lost is another number -/
theorem Fa.setLost (h : Fa f B0 l s w) (n : Int) : Fa f B0 l { s with lost := n } (w.setCell ⟨f, 3, none⟩ (.int .i64 n)) ∧ Kept (Only f) w (w.setCell ⟨f, 3, none⟩ (.int .i64 n)) := by
  have hk : Kept (Only f) w (w.setCell ⟨f, 3, none⟩ (.int .i64 n)) := (Kept.refl _ _).setO
  have hT : ∀ {x : Nat} {T : TypeId}, Ty w x T → T ≠ TFa → ¬ Only f x := fun hx hn hh => by
    have : _ = f := hh
    subst this
    exact hn (hx.one h.ob.ty)
  refine ⟨⟨h.ob.set 3 _, Ob.kept h.net hk (hT (Ob.ty h.net) (by decide)), h.hs, own_kept h.prt hk fun x hx => hT (own_ty h.prt hx) (by decide), own_kept h.arr hk fun x hx => hT (own_ty h.arr hx) (by decide), fun k hk2 => own_kept (h.rows k hk2) hk fun x hx => hT (own_ty (h.rows k hk2) hx) (by decide), h.rapart, fun i hi => (h.po i hi).kept hk (fun x hx hh => ?_) fun g hg _ => ⟨TFa, by rw [show g = f from hg]; exact h.ob.ty, by decide⟩, h.papart, fun k x hk2 hx => (h.data k x hk2 hx).keptT hk fun g hg _ => ⟨TFa, by rw [show g = f from hg]; exact h.ob.ty, by decide⟩, h.base, h.nbase⟩, hk⟩
  obtain ⟨T, h1, h2⟩ := (h.po i hi).pty hx
  refine hT h1 ?_ hh
  rcases h2 with rfl | rfl | rfl | rfl | rfl <;> decide
theorem own_setF {w : World} {B : Nat} {e : TypeId} {g n cap : Nat} {xs : List Value} (h : w.ownsRow B e 1 (.slice (some ⟨g, 0, none⟩) n cap) n xs) (i : Nat) (u : Value) : (w.setCell ⟨g, i, none⟩ u).ownsRow B e 1 (.slice (some ⟨g, 0, none⟩) n cap) n (xs.set i u) := by
  obtain ⟨h1, h2, h3, h4, cs, hr, hl, hx⟩ := own_row h
  refine row_own h1 h2 h3 (hr.set i u) (by rw [List.length_set]; exact hl) ?_
  rw [← hx, List.take_set]
theorem map_upd {α : Type} (V : Nat → α) (n i : Nat) (v : α) : ((List.range n).map V).set i v = (List.range n).map (upd V i v) := by
  refine List.ext_getElem (by simp) fun k h1 h2 => ?_
  rw [List.getElem_set]
  simp only [List.getElem_map, List.getElem_range]
  by_cases e : i = k
  · subst e; rw [if_pos rfl, upd_same]
  · rw [if_neg e, upd_other _ _ (fun hh => e hh.symm)]
/-- one host's arrived frames are others: their row is written (in place, or anew), then the row's cell -/
theorem Fa.row (h : Fa f B0 l s w) {k : Nat} (hk : k < s.H) {v' : Value} {A' : List It} (hK : Kept (Lm (l.V k)) w w') (hown : w'.ownsRow B0 TFr 10 v' A'.length (A'.flatMap It.fro)) (hb : v'.ownBlock = (l.V k).ownBlock ∨ ∀ x, v'.ownBlock = some x → w.heap.size ≤ x) (hd : ∀ x, x ∈ A' → x ∈ s.A k ∨ Da B0 w' x) :
    Fa f B0 { l with V := upd l.V k v' } { s with A := upd s.A k A' } (w'.setCell ⟨l.ag, k, none⟩ v') ∧ Kept (FM f l s) w (w'.setCell ⟨l.ag, k, none⟩ v') ∧ ∀ x, FM f { l with V := upd l.V k v' } { s with A := upd s.A k A' } x → FM f l s x ∨ w.heap.size ≤ x := by
  have hLm : ∀ {g}, Lm (l.V k) g → Ty w g TFr := fun hg => own_ty (h.rows k hk) hg
  have hLT : ∀ {x : Nat} {T : TypeId}, Ty w x T → T ≠ TFr → ¬ Lm (l.V k) x := fun hx hn hh => hn (hx.one (hLm hh))
  have hLu : ∀ g, Lm (l.V k) g → g < w.heap.size → ∃ T, Ty w g T ∧ T ≠ TU := fun g hg _ => ⟨_, hLm hg, by decide⟩
  have harr := own_kept h.arr hK fun x hx => hLT (own_ty h.arr hx) (by decide)
  have hkb : Kept (Only l.ag) w' (w'.setCell ⟨l.ag, k, none⟩ v') := (Kept.refl _ _).setO
  have haT : Ty w' l.ag TFl := own_ty harr rfl
  have hAT : ∀ {x : Nat} {T : TypeId}, Ty w' x T → T ≠ TFl → ¬ Only l.ag x := fun hx hn hh => by
    have : _ = l.ag := hh
    subst this
    exact hn (hx.one haT)
  have hAu : ∀ g, Only l.ag g → g < w'.heap.size → ∃ T, Ty w' g T ∧ T ≠ TU := fun g hg _ => ⟨TFl, by rw [show g = l.ag from hg]; exact haT, by decide⟩
  have ob1 := h.ob.kept hK (hLT h.ob.ty (by decide))
  have nt1 : Ni l.nb s.H s.S w' := Ob.kept h.net hK (hLT (Ob.ty h.net) (by decide))
  have pr1 := own_kept h.prt hK fun x hx => hLT (own_ty h.prt hx) (by decide)
  have po1 : ∀ i, i < nP s.H s.S → Po (l.b i) B0 (l.l i) (s.P i) w' := fun i hi => (h.po i hi).kept hK (fun x hx hh => by
    obtain ⟨T, h1, h2⟩ := (h.po i hi).pty hx
    refine hLT h1 ?_ hh
    rcases h2 with rfl | rfl | rfl | rfl | rfl <;> decide) hLu
  have hs := hK.size
  refine ⟨⟨ob1.kept hkb (hAT ob1.ty (by decide)), Ob.kept nt1 hkb (hAT (Ob.ty nt1) (by decide)), h.hs, own_kept pr1 hkb fun x hx => hAT (own_ty pr1 hx) (by decide), ?_, fun j hj => ?_, fun j j' g hj hj' hg hg' => ?_, fun i hi => (po1 i hi).kept hkb (fun x hx hh => ?_) hAu, h.papart, fun j x hj hx => ?_, h.base, h.nbase⟩, ?_, ?_⟩
  · have := own_setF harr k v'
    rw [map_upd] at this
    exact this
  · by_cases e : j = k
    · subst e
      show World.ownsRow _ B0 TFr 10 (upd l.V j v' j) (upd s.A j A' j).length ((upd s.A j A' j).flatMap It.fro)
      rw [upd_same, upd_same]
      exact own_kept hown hkb fun x hx => hAT (own_ty hown hx) (by decide)
    · show World.ownsRow _ B0 TFr 10 (upd l.V k v' j) (upd s.A k A' j).length ((upd s.A k A' j).flatMap It.fro)
      rw [upd_other _ _ e, upd_other _ _ e]
      have r1 := own_kept (h.rows j hj) hK fun x hx hh => e (h.rapart j k x hj hk hx hh)
      exact own_kept r1 hkb fun x hx => hAT (own_ty r1 hx) (by decide)
  · have key : ∀ q, q < s.H → (upd l.V k v' q).ownBlock = some g → (l.V q).ownBlock = some g ∨ (q = k ∧ w.heap.size ≤ g) := fun q _ hq => by
      by_cases e : q = k
      · subst e
        rw [upd_same] at hq
        rcases hb with hb | hb
        · exact .inl (hb ▸ hq)
        · exact .inr ⟨rfl, hb g hq⟩
      · rw [upd_other _ _ e] at hq
        exact .inl hq
    have lt : ∀ q, q < s.H → (l.V q).ownBlock = some g → g < w.heap.size := fun q hq hx => ((h.rows q hq).lt _ hx).2
    rcases key j hj hg with h4 | ⟨rfl, h4⟩
    · rcases key j' hj' hg' with h5 | ⟨rfl, h5⟩
      · exact h.rapart j j' g hj hj' h4 h5
      · have := lt j hj h4; omega
    · rcases key j' hj' hg' with h5 | ⟨rfl, h5⟩
      · have := lt j' hj' h5; omega
      · rfl
  · obtain ⟨T, h1, h2⟩ := (po1 i hi).pty hx
    refine hAT h1 ?_ hh
    rcases h2 with rfl | rfl | rfl | rfl | rfl <;> decide
  · have key : Da B0 w' x := by
      by_cases e : j = k
      · subst e
        have hx : x ∈ upd s.A j A' j := hx
        rw [upd_same] at hx
        rcases hd x hx with hx | hx
        · exact (h.data j x hj hx).keptT hK hLu
        · exact hx
      · have hx : x ∈ upd s.A k A' j := hx
        rw [upd_other _ _ e] at hx
        exact (h.data j x hj hx).keptT hK hLu
    exact key.keptT hkb hAu
  · exact (hK.mono fun y _ hy => .inr (.inr (.inr (.inr (.inl ⟨k, hk, hy⟩))))).trans2 (hkb.mono fun y _ hy => .inr (.inr (.inr (.inl hy)))) fun _ _ hh => hh
  · intro x hx
    rcases hx with hx | hx | hx | hx | ⟨j, hj, hx⟩ | ⟨j, hj, hx⟩
    · exact .inl (.inl hx)
    · exact .inl (.inr (.inl hx))
    · exact .inl (.inr (.inr (.inl hx)))
    · exact .inl (.inr (.inr (.inr (.inl hx))))
    · by_cases e : j = k
      · subst e
        have hx : (upd l.V j v' j).ownBlock = some x := hx
        rw [upd_same] at hx
        rcases hb with hb | hb
        · exact .inl (.inr (.inr (.inr (.inr (.inl ⟨j, hj, hb ▸ hx⟩)))))
        · exact .inr (hb x hx)
      · have hx : (upd l.V k v' j).ownBlock = some x := hx
        rw [upd_other _ _ e] at hx
        exact .inl (.inr (.inr (.inr (.inr (.inl ⟨j, hj, hx⟩)))))
    · exact .inl (.inr (.inr (.inr (.inr (.inr ⟨j, hj, hx⟩)))))
end
end Go.Proofs.Ytoihhidoafgoaaa
/- The fabric (chapter 15): a port by its number, what is counted. -/
namespace Go.Proofs.Ytoihhidoafgoaaa
open Go.RowKit

section
variable {f B0 : Nat} {l : Fl} {s : Fs} {w : World}
theorem Fa.cells (h : Fa f B0 l s w) : f < w.heap.size ∧ w.cell? ⟨f, 0, none⟩ = some (.pointer (some ⟨l.nb, 0, none⟩)) ∧ w.cell? ⟨f, 1, none⟩ = some (.slice (some ⟨l.pg, 0, none⟩) (nP s.H s.S) l.pc) ∧ w.cell? ⟨f, 2, none⟩ = some (.slice (some ⟨l.ag, 0, none⟩) s.H s.H) ∧ w.cell? ⟨f, 3, none⟩ = some (.int .i64 s.lost) := by
  obtain ⟨a, b, _⟩ := h.ob.blk
  exact ⟨a, b 0, b 1, b 2, b 3⟩
theorem Fa.pcell (h : Fa f B0 l s w) : l.pg < w.heap.size ∧ nP s.H s.S ≤ l.pc ∧ l.pc ≤ maxLen ∧ ∀ i, i < nP s.H s.S → w.cell? ⟨l.pg, i, none⟩ = some (.pointer (some ⟨l.b i, 0, none⟩)) := by
  obtain ⟨g, cap, hv, _, h1, h2, h3, h4, _⟩ := own_some h.prt (by have := h.hs.np; omega)
  cases hv
  exact ⟨h3, h1, h2, fun i hi => h4 i _ (by rw [List.getElem?_map, List.getElem?_range hi]; rfl)⟩
theorem Fa.acell (h : Fa f B0 l s w) : l.ag < w.heap.size ∧ (∀ i, i < s.H → w.cell? ⟨l.ag, i, none⟩ = some (l.V i)) ∧ ∀ i, w.frozen? ⟨l.ag, i, none⟩ = false := by
  obtain ⟨g, cap, hv, _, h1, h2, h3, h4, h5⟩ := own_some h.arr (by have := h.hs.h; omega)
  cases hv
  exact ⟨h3, fun i hi => h4 i _ (by rw [List.getElem?_map, List.getElem?_range hi]; rfl), h5⟩
theorem has_yes (h : Fa f B0 l s w) {k : Nat} (hk : k < s.H) : Calls Try.prog 33 #[.pointer (some ⟨f, 0, none⟩), .int .i64 k] w fun e w' => e = .returned (.bool true) ∧ w = w' := by
  obtain ⟨l0, c0, c1, c2, c3⟩ := h.cells
  have hh := h.hs.h
  go_enter Try.func33, Try.ntmps33
  go_wp2_with fail
  go_ret
  exact ⟨rfl, rfl⟩
theorem has_no (h : Fa f B0 l s w) {k : Int} (hk : k < 0 ∨ (s.H : Int) ≤ k) : Calls Try.prog 33 #[.pointer (some ⟨f, 0, none⟩), .int .i64 k] w fun e w' => e = .returned (.bool false) ∧ w = w' := by
  obtain ⟨l0, c0, c1, c2, c3⟩ := h.cells
  have hh := h.hs.h
  have hk2 : k < 0 ∨ (0 ≤ k ∧ (s.H : Int) ≤ k) := by omega
  clear hk
  rcases hk2 with hk | ⟨hk, hk2⟩
  all_goals
    go_enter Try.func33, Try.ntmps33
    go_wp2_with fail
    go_ret
    first | exact ⟨rfl, rfl⟩ | exact ⟨ret_bool (decide_eq_false (by omega)), rfl⟩
theorem has_ni (k : Int) : Calls Try.prog 33 #[.pointer none, .int .i64 k] w fun e w' => e = .returned (.bool false) ∧ w = w' := by
  go_enter Try.func33, Try.ntmps33
  go_wp2_with fail
  go_ret
  exact ⟨rfl, rfl⟩
theorem at_yes (h : Fa f B0 l s w) {k : Nat} (hk : k < nP s.H s.S) : Calls Try.prog 36 #[.pointer (some ⟨f, 0, none⟩), .int .i64 k] w fun e w' => e = .returned (.pointer (some ⟨l.b k, 0, none⟩)) ∧ w = w' := by
  obtain ⟨l0, c0, c1, c2, c3⟩ := h.cells
  have hh := h.hs.np
  obtain ⟨p0, p1, p2, p3⟩ := h.pcell
  have pk := p3 k hk
  clear p3
  go_enter Try.func36, Try.ntmps36
  go_wp2_with fail
  go_ret
  exact ⟨rfl, rfl⟩
theorem at_no (h : Fa f B0 l s w) {k : Int} (hk : k < 0 ∨ (nP s.H s.S : Int) ≤ k) : Calls Try.prog 36 #[.pointer (some ⟨f, 0, none⟩), .int .i64 k] w fun e w' => e = .returned (.pointer none) ∧ w = w' := by
  obtain ⟨l0, c0, c1, c2, c3⟩ := h.cells
  have hh := h.hs.np
  have hk2 : k < 0 ∨ (0 ≤ k ∧ (nP s.H s.S : Int) ≤ k) := by omega
  clear hk
  rcases hk2 with hk | ⟨hk, hk2⟩
  all_goals
    go_enter Try.func36, Try.ntmps36
    go_wp2_with fail
    go_ret
    exact ⟨rfl, rfl⟩
theorem at_ni (k : Int) : Calls Try.prog 36 #[.pointer none, .int .i64 k] w fun e w' => e = .returned (.pointer none) ∧ w = w' := by
  go_enter Try.func36, Try.ntmps36
  go_wp2_with fail
  go_ret
  exact ⟨rfl, rfl⟩
theorem ports_fa (h : Fa f B0 l s w) : Calls Try.prog 11 #[.pointer (some ⟨f, 0, none⟩)] w fun e w' => e = .returned (.int .i64 (nP s.H s.S)) ∧ w = w' := by
  obtain ⟨l0, c0, c1, c2, c3⟩ := h.cells
  go_enter Try.func11, Try.ntmps11
  go_wp2_with fail
  go_ret
  exact ⟨rfl, rfl⟩
theorem ports_ni : Calls Try.prog 11 #[.pointer none] w fun e w' => e = .returned (.int .i64 0) ∧ w = w' := by
  go_enter Try.func11, Try.ntmps11
  go_wp2_with fail
  go_ret
  exact ⟨rfl, rfl⟩
theorem lost_fa (h : Fa f B0 l s w) : Calls Try.prog 15 #[.pointer (some ⟨f, 0, none⟩)] w fun e w' => e = .returned (.int .i64 s.lost) ∧ w = w' := by
  obtain ⟨l0, c0, c1, c2, c3⟩ := h.cells
  go_enter Try.func15, Try.ntmps15
  go_wp2_with fail
  go_ret
  exact ⟨rfl, rfl⟩
theorem lost_ni : Calls Try.prog 15 #[.pointer none] w fun e w' => e = .returned (.int .i64 0) ∧ w = w' := by
  go_enter Try.func15, Try.ntmps15
  go_wp2_with fail
  go_ret
  exact ⟨rfl, rfl⟩
theorem counts_no (f : Nat) (r : Int) (hr : r ≠ 3) : Calls Try.prog 35 #[.pointer (some ⟨f, 0, none⟩), .int .i64 r] w fun e w' => e = .returned (.int .i64 r) ∧ w = w' := by
  have hb : (r == 3) = false := beq_eq_false_iff_ne.2 hr
  clear hr
  go_enter Try.func35, Try.ntmps35
  go_wp2_with fail
  go_ret
  exact ⟨rfl, rfl⟩
theorem counts_yes (h : Fa f B0 l s w) (hl : 0 ≤ s.lost ∧ s.lost ≤ 1000000000) : Calls Try.prog 35 #[.pointer (some ⟨f, 0, none⟩), .int .i64 3] w fun e w' => e = .returned (.int .i64 3) ∧ Fa f B0 l { s with lost := s.lost + 1 } w' ∧ Kept (Only f) w w' := by
  obtain ⟨l0, c0, c1, c2, c3⟩ := h.cells
  have f0 := (h.ob.blk).2.2
  have HL := Lib.hid (h.setLost (s.lost + 1))
  obtain ⟨h1, h2⟩ := hl
  clear h
  go_enter Try.func35, Try.ntmps35
  go_wp2_with fail
  go_ret
  exact ⟨rfl, HL.out⟩
def lostBy (s : Fs) (r : Int) : Fs := if r = 3 then { s with lost := s.lost + 1 } else s
theorem counts_any (h : Fa f B0 l s w) (r : Int) (hl : 0 ≤ s.lost ∧ s.lost ≤ 1000000000) : Calls Try.prog 35 #[.pointer (some ⟨f, 0, none⟩), .int .i64 r] w fun e w' => e = .returned (.int .i64 r) ∧ Fa f B0 l (lostBy s r) w' ∧ Kept (Only f) w w' := by
  unfold lostBy
  by_cases hr : r = 3
  · subst hr
    rw [if_pos rfl]
    exact counts_yes h hl
  · rw [if_neg hr]
    refine (counts_no f r hr).mono ?_
    rintro e w1 ⟨rfl, rfl⟩
    exact ⟨rfl, h, Kept.refl _ _⟩
end
end Go.Proofs.Ytoihhidoafgoaaa
/- The fabric (chapter 15): how many wait, and arrived. -/
namespace Go.Proofs.Ytoihhidoafgoaaa
open Go.RowKit

def sumN (g : Nat → Nat) : Nat → Nat
  | 0 => 0
  | k + 1 => sumN g k + g k
theorem sumN_le (g : Nat → Nat) (N : Nat) : ∀ n, (∀ i, i < n → g i ≤ N) → sumN g n ≤ n * N
  | 0, _ => by simp [sumN]
  | n + 1, h => by
    have h1 := sumN_le g N n fun i hi => h i (by omega)
    have h2 := h n (by omega)
    rw [sumN, Nat.succ_mul]
    omega
theorem sumN_congr {g g' : Nat → Nat} : ∀ n, (∀ i, i < n → g i = g' i) → sumN g n = sumN g' n
  | 0, _ => rfl
  | n + 1, h => by rw [sumN, sumN, sumN_congr n fun i hi => h i (by omega), h n (by omega)]
theorem sumN_upd {α : Type} (m : α → Nat) (F : Nat → α) {i : Nat} (x : α) : ∀ n, i < n → sumN (fun k => m (upd F i x k)) n + m (F i) = sumN (fun k => m (F k)) n + m x
  | n + 1, h => by
    rw [sumN, sumN]
    by_cases e : i = n
    · subst e
      have : sumN (fun k => m (upd F i x k)) i = sumN (fun k => m (F k)) i := sumN_congr i fun k hk => by simp only [upd_other F x (show k ≠ i by omega)]
      rw [this, upd_same]
      omega
    · have := sumN_upd m F x n (show i < n by omega)
      rw [upd_other F x (fun hh => e hh.symm)]
      omega
def Fs.waitN (s : Fs) : Nat := sumN (fun i => (s.P i).waits.length) (nP s.H s.S)
def Fs.arrN (s : Fs) : Nat := sumN (fun i => (s.A i).length) s.H
structure Fs.lens (s : Fs) : Prop where
  p : ∀ i, i < nP s.H s.S → (s.P i).lens
  a : ∀ i, i < s.H → (s.A i).length ≤ 1000000
theorem Pp.lens.w {p : Pp} (h : p.lens) : p.waits.length ≤ 9000000 := by
  have h1 := wfrom_len p.L 1000000 h.1 8 (by decide)
  have h2 := h.2
  unfold Pp.waits
  rw [List.length_append]
  omega
section
variable {f B0 : Nat} {l : Fl} {s : Fs} {w : World}
theorem Fa.row_form (h : Fa f B0 l s w) {k : Nat} (hk : k < s.H) : ∃ a c, l.V k = .slice a (s.A k).length c ∧ (s.A k).length ≤ c ∧ c ≤ 9223372036854775807 := (Rd.of_own (h.rows k hk)).form
theorem waiting_yes (h : Fa f B0 l s w) (hl : s.lens) {k : Nat} (hk : k < nP s.H s.S) : Calls Try.prog 16 #[.pointer (some ⟨f, 0, none⟩), .int .i64 k] w fun e w' => e = .returned (.int .i64 (s.P k).waits.length) ∧ ∃ m, w' = w.drewN m := by
  go_enter Try.func16, Try.ntmps16
  go_wp2_with fail
  refine (at_yes h hk).mono ?_
  rintro e w1 ⟨rfl, rfl⟩
  go_wp2_with fail
  refine (len_pt _ B0 _ _ w (h.po k hk) (hl.p k hk)).mono ?_
  rintro e w2 ⟨rfl, hm⟩
  go_wp2_with fail
  go_ret
  exact ⟨rfl, hm⟩
theorem waiting_no (h : Fa f B0 l s w) {k : Int} (hk : k < 0 ∨ (nP s.H s.S : Int) ≤ k) : Calls Try.prog 16 #[.pointer (some ⟨f, 0, none⟩), .int .i64 k] w fun e w' => e = .returned (.int .i64 0) ∧ w = w' := by
  go_enter Try.func16, Try.ntmps16
  go_wp2_with fail
  refine (at_no h hk).mono ?_
  rintro e w1 ⟨rfl, rfl⟩
  go_wp2_with fail
  refine (len_ni w).mono ?_
  rintro e w2 ⟨rfl, rfl⟩
  go_wp2_with fail
  go_ret
  exact ⟨rfl, rfl⟩
set_option maxRecDepth 100000 in
set_option maxHeartbeats 4000000 in
theorem held_fa (h : Fa f B0 l s w) (hl : s.lens) : Calls Try.prog 43 #[.pointer (some ⟨f, 0, none⟩)] w fun e w' => e = .returned (.int .i64 ((s.waitN + s.arrN : Nat) : Int)) ∧ ∃ m, w' = w.drewN m := by
  have HF := Lib.hid h
  have HL := Lib.hid hl
  obtain ⟨l0, c0, c1, c2, c3⟩ := h.cells
  obtain ⟨np1, np2⟩ := h.hs.np
  obtain ⟨hh1, hh2⟩ := h.hs.h
  have HW := Lib.hid (fun k (hk : k ≤ nP s.H s.S) => sumN_le (fun i => (s.P i).waits.length) 9000000 k fun i hi => (hl.p i (by omega)).w)
  have HA := Lib.hid (fun k (hk : k ≤ s.H) => sumN_le (fun i => (s.A i).length) 1000000 k fun i hi => hl.a i (by omega))
  clear h hl
  go_enter Try.func43, Try.ntmps43
  go_wp2_with fail
  go_loopw [2, 4, 14] (fun n _ i wr => ∃ j : Nat, j ≤ nP s.H s.S ∧ i = .int .i64 j ∧ n = .int .i64 (sumN (fun i => (s.P i).waits.length) j) ∧ ∃ m, wr = w.drewN m) (fun _ _ i _ => nP s.H s.S - (intOf i).toNat)
  case atStart => exact ⟨0, by omega, rfl, rfl, 0, rfl⟩
  case round =>
    obtain ⟨j, hj, rfl, rfl, m, rfl⟩ := hrel
    have hb := HW.out j hj
    have F1 := Lib.hid (HF.out.dn m)
    by_cases hlt : j < nP s.H s.S
    · obtain ⟨p0, p1, p2, p3⟩ := F1.out.pcell
      have pk := p3 j hlt
      have hwj := (HL.out.p j hlt).w
      clear p3
      have HS := Lib.hid (show sumN (fun i => (s.P i).waits.length) (j + 1) = sumN (fun i => (s.P i).waits.length) j + (s.P j).waits.length from rfl)
      generalize sumN (fun i => (s.P i).waits.length) j = u at *
      go_wp2_with fail
      refine (len_pt _ B0 _ _ _ (F1.out.po j hlt) (HL.out.p j hlt)).mono ?_
      rintro e w2 ⟨rfl, m2, rfl⟩
      go_wp2_with fail
      go_roundw
      case rel => exact ⟨j + 1, by omega, by go_num, by rw [HS.out]; go_num, m + m2, rfl⟩
      case measure => simp [intOf]; omega
    · obtain rfl : j = nP s.H s.S := by omega
      obtain ⟨l0', c0', c1', c2', c3'⟩ := F1.out.cells
      generalize hu : sumN (fun i => (s.P i).waits.length) (nP s.H s.S) = u at *
      have HU := Lib.hid hu
      clear hu l0 c0 c1 c2 c3
      have HM : Hid (∃ k, w.drewN m = w.drewN k) := Lib.hid ⟨m, rfl⟩
      generalize w.drewN m = w3 at *
      go_wp2_with fail
      go_loopw [2, 6, 28] (fun n _ i wr => ∃ j : Nat, j ≤ s.H ∧ i = .int .i64 j ∧ n = .int .i64 ((u + sumN (fun i => (s.A i).length) j : Nat) : Int) ∧ wr = w3) (fun _ _ i _ => s.H - (intOf i).toNat)
      case atStart => exact ⟨0, by omega, rfl, rfl, rfl⟩
      case round =>
        obtain ⟨j, hj, rfl, rfl, rfl⟩ := hrel
        have hb2 := HA.out j hj
        by_cases hlt : j < s.H
        · obtain ⟨p0, p1, p2⟩ := F1.out.acell
          obtain ⟨a, c, hv, hc1, hc2⟩ := F1.out.row_form hlt
          have pk := (p1 j hlt).trans (congrArg some hv)
          have hwj := HL.out.a j hlt
          clear p1 p2 hv
          have HS := Lib.hid (show sumN (fun i => (s.A i).length) (j + 1) = sumN (fun i => (s.A i).length) j + (s.A j).length from rfl)
          generalize sumN (fun i => (s.A i).length) j = u2 at *
          go_wp2_with fail
          go_roundw
          case rel => exact ⟨j + 1, by omega, by go_num, by rw [HS.out]; go_num, trivial⟩
          case measure => simp [intOf]; omega
        · obtain rfl : j = s.H := by omega
          go_wp2_with fail
          go_ret
          exact ⟨by unfold Fs.waitN Fs.arrN; rw [HU.out]; rfl, HM.out⟩
theorem held_ni : Calls Try.prog 43 #[.pointer none] w fun e w' => e = .returned (.int .i64 0) ∧ w = w' := by
  go_enter Try.func43, Try.ntmps43
  go_wp2_with fail
  go_ret
  exact ⟨rfl, rfl⟩
theorem empty_fa (h : Fa f B0 l s w) (hl : s.lens) : Calls Try.prog 14 #[.pointer (some ⟨f, 0, none⟩)] w fun e w' => e = .returned (.bool (((s.waitN + s.arrN : Nat) : Int) == 0)) ∧ ∃ m, w' = w.drewN m := by
  have key := held_fa h hl
  generalize s.waitN + s.arrN = n at key ⊢
  go_enter Try.func14, Try.ntmps14
  go_wp2_with fail
  refine (key).mono ?_
  rintro e w2 ⟨rfl, hm⟩
  go_wp2_with fail
  go_ret
  exact ⟨rfl, hm⟩
theorem empty_ni : Calls Try.prog 14 #[.pointer none] w fun e w' => e = .returned (.bool true) ∧ w = w' := by
  go_enter Try.func14, Try.ntmps14
  go_wp2_with fail
  refine (held_ni).mono ?_
  rintro e w2 ⟨rfl, rfl⟩
  go_wp2_with fail
  go_ret
  exact ⟨rfl, rfl⟩
end
end Go.Proofs.Ytoihhidoafgoaaa
