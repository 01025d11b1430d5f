/- The document's fabric (chapter 15): what it is in memory. -/
import Derived.Test.YtoihhidoafgoaaaFaBA
import Derived.Test.YtoihhidoafgoaaaMF
import Derived.Test.YtoihhidoafgoaaaFaY
namespace Go.Proofs.Ytoihhidoafgoaaa
open Go.RowKit

abbrev TMf : TypeId := 62
abbrev TMp : TypeId := 92
structure Ms where
  H : Nat
  S : Nat
  P : Nat → Mp
  A : Nat → List It
  lost : Int
structure Ml where
  nb : Nat
  pg : Nat
  pc : Nat
  ib : Nat
  b : Nat → Nat
  U : Nat → Nat → Value
  uc : Nat → Value
  V : Nat → Value
def mfcells (l : Ml) (s : Ms) : Array Value := #[.pointer (some ⟨l.nb, 0, none⟩), .slice (some ⟨l.pg, 0, none⟩) (nP s.H s.S) l.pc, .slice (some ⟨l.ib, 0, none⟩) s.H s.H, .int .i64 s.lost]
def vcells (n : Nat) (V : Nat → Value) : Array Value := ((List.range n).map V).toArray
theorem vcells_get {n k : Nat} (V : Nat → Value) (h : k < n) : (vcells n V)[k]? = some (V k) := by
  unfold vcells
  rw [List.getElem?_toArray, List.getElem?_map, List.getElem?_range h]
  rfl
theorem vcells_set (n k : Nat) (V : Nat → Value) (v : Value) : (vcells n V).setIfInBounds k v = vcells n (upd V k v) := by
  unfold vcells
  rw [List.setIfInBounds_toArray, map_upd]
/-- a row of frames that nobody writes -/
structure Rf (w : World) (v : Value) (l : List It) : Prop where
  rd : Rd w 10 v l.length (l.flatMap It.fro)
  ty : ∀ a n c, v = .slice (some a) n c → Ty w a.block TFr
structure Mf (m : Nat) (l : Ml) (s : Ms) (w : World) : Prop where
  ob : Ob w m (mfcells l s) TMf
  net : Mn l.nb s.H s.S w
  hs : Hs s.H s.S
  prt : w.ownsRow 0 TMp 1 (.slice (some ⟨l.pg, 0, none⟩) (nP s.H s.S) l.pc) (nP s.H s.S) ((List.range (nP s.H s.S)).map (ptrV l.b))
  inb : Ob w l.ib (vcells s.H l.V) TFl
  rows : ∀ h, h < s.H → Rf w (l.V h) (s.A h)
  po : ∀ i, i < nP s.H s.S → Mo (l.b i) (l.U i) (l.uc i) (s.P i) w
  apart : ∀ i j, i < nP s.H s.S → j < nP s.H s.S → l.b i = l.b j → i = j
/-- blocks of the program's types that are the document's -/
def RM (l : Ml) (s : Ms) : Nat → Prop := fun x => x = l.ib ∨ (∃ i, i < nP s.H s.S ∧ x = l.b i) ∨ ∃ h, h < s.H ∧ ∃ a n c, l.V h = .slice (some a) n c ∧ a.block = x
/-- blocks that the document's calls write -/
def MM (m : Nat) (l : Ml) (s : Ms) : Nat → Prop := fun x => x = m ∨ x = l.ib ∨ ∃ i, i < nP s.H s.S ∧ x = l.b i
def MTy (T : TypeId) : Prop := T = TMf ∨ T = TMn ∨ T = TMp ∨ T = TM ∨ T = TX
section
variable {m : Nat} {l : Ml} {s : Ms} {w w' : World} {M : Nat → Prop}
theorem Rf.form {v : Value} {A : List It} (h : Rf w v A) : ∃ a c, v = .slice a A.length c ∧ A.length ≤ c ∧ c ≤ 9223372036854775807 := h.rd.form
theorem Rf.kept {v : Value} {A : List It} (h : Rf w v A) (hk : Kept M w w') (hM : ∀ a n c, v = .slice (some a) n c → ¬ M a.block) : Rf w' v A :=
  ⟨h.rd.kept hk fun a n c hv => hM a n c hv, fun a n c hv => (h.ty a n c hv).kept hk (hM a n c hv)⟩
theorem Mf.kept (h : Mf m l s w) (hk : Kept M w w') (hR : ∀ x, RM l s x → ¬ M x) (hT : ∀ g, M g → g < w.heap.size → ∃ T, Ty w g T ∧ ¬ MTy T) : Mf m l s w' := by
  have key : ∀ {x : Nat} {T : TypeId}, Ty w x T → MTy T → ¬ M x := fun {x T} hx hm hh => by
    obtain ⟨cs, hc⟩ := hx
    obtain ⟨T', h1, h2⟩ := hT x hh (heap_lt hc)
    exact h2 (h1.one ⟨cs, hc⟩ ▸ hm)
  exact ⟨h.ob.kept hk (key h.ob.ty (.inl rfl)), Ob.kept h.net hk (key (Ob.ty h.net) (.inr (.inl rfl))), h.hs, own_kept h.prt hk fun x hx => key (own_ty h.prt hx) (.inr (.inr (.inl rfl))), h.inb.kept hk (hR _ (.inl rfl)), fun k hk2 => (h.rows k hk2).kept hk fun a n c hv => hR _ (.inr (.inr ⟨k, hk2, a, n, c, hv, rfl⟩)), fun i hi => (h.po i hi).kept hk (key (h.po i hi).ob.ty (.inr (.inr (.inr (.inl rfl))))) fun g hg hg2 => by
    obtain ⟨T, h1, h2⟩ := hT g hg hg2
    exact ⟨T, h1, fun e => h2 (e ▸ .inr (.inr (.inr (.inr rfl))))⟩, h.apart⟩
theorem Mf.keptF (h : Mf m l s w) (hk : Kept (fun _ => False) w w') : Mf m l s w' := h.kept hk (fun _ _ hh => hh) (fun _ hh => hh.elim)
theorem Mf.below (h : Mf m l s w) (hk : Below w.heap.size w w') : Mf m l s w' := h.keptF (Kept.of_below hk)
theorem Mf.dn (h : Mf m l s w) (n : Nat) : Mf m l s (w.drewN n) := h.keptF (Kept.dn _ _ _)
theorem Mf.rlt (h : Mf m l s w) {x : Nat} (hx : RM l s x) : x < w.heap.size := by
  rcases hx with rfl | ⟨i, hi, rfl⟩ | ⟨k, hk, a, n, c, hv, rfl⟩
  · exact h.inb.lt
  · exact (h.po i hi).ob.lt
  · obtain ⟨cs, hc⟩ := (h.rows k hk).ty a n c hv
    exact heap_lt hc
theorem Mf.mty (h : Mf m l s w) {x : Nat} (hx : MM m l s x) : ∃ T, Ty w x T ∧ (MTy T ∨ x = l.ib) ∧ T ≠ TU := by
  rcases hx with rfl | rfl | ⟨i, hi, rfl⟩
  · exact ⟨_, h.ob.ty, .inl (.inl rfl), by decide⟩
  · exact ⟨_, h.inb.ty, .inr rfl, by decide⟩
  · exact ⟨_, (h.po i hi).ob.ty, .inl (.inr (.inr (.inr (.inl rfl)))), by decide⟩
def MfPost (m : Nat) (l : Ml) (s s' : Ms) (w w' : World) : Prop := ∃ l', Mf m l' s' w' ∧ Kept (MM m l s) w w' ∧ ∀ x, RM l' s' x → RM l s x ∨ w.heap.size ≤ x
theorem MfPost.same (h : Mf m l s w) (hb : Below w.heap.size w w') : MfPost m l s s w w' := ⟨l, h.below hb, Kept.of_below hb, fun _ hh => .inl hh⟩
theorem mty_no {T : TypeId} (h : FTy T) : ¬ MTy T := by
  unfold FTy at h
  unfold MTy
  rcases h with rfl | rfl | rfl | rfl | rfl | rfl | rfl | rfl | rfl | rfl <;> decide
/-- both fabrics, apart -/
theorem Mf.ofFa {f B0 : Nat} {lf : Fl} {sf : Fs} (h : Mf m l s w) (hf : Fa f B0 lf sf w) (ha : ∀ x, FM f lf sf x → ¬ RM l s x) (hk : Kept (FM f lf sf) w w') : Mf m l s w' :=
  h.kept hk (fun x hx hm => ha x hm hx) fun g hg _ => by
    obtain ⟨T, h1, h2⟩ := hf.tys hg
    exact ⟨T, h1, mty_no h2⟩
theorem Fa.ofMf {f B0 : Nat} {lf : Fl} {sf : Fs} (hf : Fa f B0 lf sf w) (h : Mf m l s w) (ha : ∀ x, FM f lf sf x → ¬ RM l s x) (hk : Kept (MM m l s) w w') : Fa f B0 lf sf w' :=
  hf.kept hk (fun x hx hm => by
    obtain ⟨T, h1, h2, _⟩ := h.mty hm
    obtain ⟨T', h3, h4⟩ := hf.tys hx
    rcases h2 with h2 | h2
    · exact mty_no h4 (h1.one h3 ▸ h2)
    · exact ha x hx (.inl h2)) fun g hg _ => by
    obtain ⟨T, h1, _, h2⟩ := h.mty hg
    exact ⟨T, h1, h2⟩
/-- one port is another -/
theorem Mf.port (h : Mf m l s w) {i : Nat} (hi : i < nP s.H s.S) {t' : Mp} (hp : MoPost (l.b i) t' w w') : MfPost m l s { s with P := upd s.P i t' } w w' ∧ Kept (Only (l.b i)) w w' := by
  obtain ⟨U', uc', h1, h2⟩ := hp
  have hT : ∀ {x : Nat} {T : TypeId}, Ty w x T → T ≠ TM → ¬ Only (l.b i) x := fun hx hn hh => by
    rw [show _ = l.b i from hh] at hx
    exact hn (hx.one (h.po i hi).ob.ty)
  refine ⟨⟨{ l with U := upd l.U i U', uc := upd l.uc i uc' }, ⟨h.ob.kept h2 (hT h.ob.ty (by decide)), Ob.kept h.net h2 (hT (Ob.ty h.net) (by decide)), h.hs, own_kept h.prt h2 fun x hx => hT (own_ty h.prt hx) (by decide), h.inb.kept h2 (hT h.inb.ty (by decide)), fun k hk => (h.rows k hk).kept h2 fun a n c hv => hT ((h.rows k hk).ty a n c hv) (by decide), fun j hj => ?_, h.apart⟩, h2.mono fun x _ hx => .inr (.inr ⟨i, hi, hx⟩), fun x hx => .inl hx⟩, h2⟩
  by_cases e : j = i
  · subst e
    show Mo (l.b j) (upd l.U j U' j) (upd l.uc j uc' j) (upd s.P j t' j) w'
    rw [upd_same, upd_same, upd_same]
    exact h1
  · show Mo (l.b j) (upd l.U i U' j) (upd l.uc i uc' j) (upd s.P i t' j) w'
    rw [upd_other _ _ e, upd_other _ _ e, upd_other _ _ e]
    exact (h.po j hj).kept h2 (fun hh => e (h.apart j i hj hi hh)) fun g hg _ => ⟨TM, by rw [show g = l.b i from hg]; exact (h.po i hi).ob.ty, by decide⟩
theorem Mf.setLost (h : Mf m l s w) (n : Int) : Mf m l { s with lost := n } (w.setCell ⟨m, 3, none⟩ (.int .i64 n)) ∧ Kept (Only m) w (w.setCell ⟨m, 3, none⟩ (.int .i64 n)) := by
  have hk : Kept (Only m) w (w.setCell ⟨m, 3, none⟩ (.int .i64 n)) := (Kept.refl _ _).setO
  have hT : ∀ {x : Nat} {T : TypeId}, Ty w x T → T ≠ TMf → ¬ Only m x := fun hx hn hh => by
    rw [show _ = m from hh] at hx
    exact hn (hx.one h.ob.ty)
  exact ⟨⟨h.ob.set 3 _, Ob.kept h.net hk (hT (Ob.ty h.net) (by decide)), h.hs, own_kept h.prt hk fun x hx => hT (own_ty h.prt hx) (by decide), h.inb.kept hk (hT h.inb.ty (by decide)), fun k hk2 => (h.rows k hk2).kept hk fun a n c hv => hT ((h.rows k hk2).ty a n c hv) (by decide), fun i hi => (h.po i hi).kept hk (hT (h.po i hi).ob.ty (by decide)) fun g hg _ => ⟨TMf, by rw [show g = m from hg]; exact h.ob.ty, by decide⟩, h.apart⟩, hk⟩
/-- one host's row is another one -/
theorem Mf.row (h : Mf m l s w) {k : Nat} (hk : k < s.H) {v : Value} {A' : List It} (hr : Rf w v A') (hin : ∀ a n c, v = .slice (some a) n c → a.block ≠ l.ib) : Mf m { l with V := upd l.V k v } { s with A := upd s.A k A' } (w.setCell ⟨l.ib, k, none⟩ v) ∧ Kept (Only l.ib) w (w.setCell ⟨l.ib, k, none⟩ v) := by
  have hkb : Kept (Only l.ib) w (w.setCell ⟨l.ib, k, none⟩ v) := (Kept.refl _ _).setO
  have hT : ∀ {x : Nat} {T : TypeId}, Ty w x T → T ≠ TFl → ¬ Only l.ib x := fun hx hn hh => by
    rw [show _ = l.ib from hh] at hx
    exact hn (hx.one h.inb.ty)
  refine ⟨⟨h.ob.kept hkb (hT h.ob.ty (by decide)), Ob.kept h.net hkb (hT (Ob.ty h.net) (by decide)), h.hs, own_kept h.prt hkb fun x hx => hT (own_ty h.prt hx) (by decide), (h.inb.set k v).cast (vcells_set _ _ _ _), fun j hj => ?_, fun i hi => (h.po i hi).kept hkb (hT (h.po i hi).ob.ty (by decide)) fun g hg _ => ⟨TFl, by rw [show g = l.ib from hg]; exact h.inb.ty, by decide⟩, h.apart⟩, hkb⟩
  by_cases e : j = k
  · subst e
    show Rf _ (upd l.V j v j) (upd s.A j A' j)
    rw [upd_same, upd_same]
    exact hr.kept hkb fun a n c hv => hin a n c hv
  · show Rf _ (upd l.V k v j) (upd s.A k A' j)
    rw [upd_other _ _ e, upd_other _ _ e]
    exact (h.rows j hj).kept hkb fun a n c hv => hT ((h.rows j hj).ty a n c hv) (by decide)
theorem Mf.cells (h : Mf m l s w) : m < w.heap.size ∧ w.cell? ⟨m, 0, none⟩ = some (.pointer (some ⟨l.nb, 0, none⟩)) ∧ w.cell? ⟨m, 1, none⟩ = some (.slice (some ⟨l.pg, 0, none⟩) (nP s.H s.S) l.pc) ∧ w.cell? ⟨m, 2, none⟩ = some (.slice (some ⟨l.ib, 0, none⟩) s.H s.H) ∧ w.cell? ⟨m, 3, none⟩ = some (.int .i64 s.lost) := by
  obtain ⟨a, b, _⟩ := h.ob.blk
  exact ⟨a, b 0, b 1, b 2, b 3⟩
theorem Mf.pcell (h : Mf m l s w) : l.pg < w.heap.size ∧ nP s.H s.S ≤ l.pc ∧ l.pc ≤ maxLen ∧ ∀ i, i < nP s.H s.S → w.cell? ⟨l.pg, i, none⟩ = some (.pointer (some ⟨l.b i, 0, none⟩)) := by
  obtain ⟨g, cap, hv, _, h1, h2, h3, h4, _⟩ := own_some h.prt (by have := h.hs.np; omega)
  cases hv
  exact ⟨h3, h1, h2, fun i hi => h4 i _ (by rw [List.getElem?_map, List.getElem?_range hi]; rfl)⟩
theorem Mf.acell (h : Mf m l s w) : l.ib < w.heap.size ∧ (∀ i, i < s.H → w.cell? ⟨l.ib, i, none⟩ = some (l.V i)) ∧ ∀ i, w.frozen? ⟨l.ib, i, none⟩ = false := by
  obtain ⟨a, b, c⟩ := h.inb.blk
  exact ⟨a, fun i hi => (b i).trans (vcells_get _ hi), c⟩
end
end Go.Proofs.Ytoihhidoafgoaaa
