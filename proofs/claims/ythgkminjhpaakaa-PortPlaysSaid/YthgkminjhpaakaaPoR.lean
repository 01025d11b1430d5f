/- The document's port (chapter 13): what it is in memory; Used. -/
import Derived.Test.YthgkminjhpaakaaPoE
namespace Go.Proofs.Ythgkminjhpaakaa
open Go.RowKit

abbrev TM : TypeId := 82
abbrev TX : TypeId := 53
structure Mp where
  room : Int
  most : Int
  trim : Bool
  L : Nat → List It
  C : List It
  now : Int
  last : Int
  ever : Bool
def mcells (U : Nat → Value) (uc : Value) (t : Mp) : Array Value := #[.int .i64 t.room, .int .i64 t.most, .bool t.trim, U 0, U 1, U 2, U 3, U 4, U 5, U 6, U 7, uc, .int .i64 t.now, .int .i64 t.last, .bool t.ever]
theorem m_get (U : Nat → Value) (uc : Value) (t : Mp) (p : Nat) (h : p < 8) : (mcells U uc t)[3 + p]? = some (U p) := by
  rcases eight h with rfl | rfl | rfl | rfl | rfl | rfl | rfl | rfl <;> rfl
theorem m_set (U : Nat → Value) (uc : Value) (t : Mp) (p : Nat) (h : p < 8) (x : Value) : (mcells U uc t).setIfInBounds (3 + p) x = mcells (upd U p x) uc t := by
  rcases eight h with rfl | rfl | rfl | rfl | rfl | rfl | rfl | rfl <;> rfl
/-- a row of the document's items, which nobody writes -/
structure Rt (w : World) (v : Value) (l : List It) : Prop where
  rd : Rd w 11 v l.length (l.flatMap It.row)
  ty : ∀ a n c, v = .slice (some a) n c → Ty w a.block TX
structure Mo (m : Nat) (U : Nat → Value) (uc : Value) (t : Mp) (w : World) : Prop where
  ob : Ob w m (mcells U uc t) TM
  lines : ∀ i, i < 8 → Rt w (U i) (t.L i)
  cr : Rt w uc t.C
theorem Ty.kept {M : Nat → Prop} {w w' : World} {g : Nat} {T : TypeId} (h : Ty w g T) (hk : Kept M w w') (hM : ¬ M g) : Ty w' g T := by
  obtain ⟨cs, h⟩ := h
  exact ⟨cs, hk.heap h hM⟩
section
variable {M : Nat → Prop} {w w' : World} {m : Nat} {U : Nat → Value} {uc : Value} {t : Mp}
theorem Rt.kept {v : Value} {l : List It} (h : Rt w v l) (hk : Kept M w w') (hT : ∀ g, M g → g < w.heap.size → ∃ T, Ty w g T ∧ T ≠ TX) : Rt w' v l := by
  have key : ∀ a n c, v = .slice (some a) n c → ¬ M a.block := fun a n c hv hm => by
    have h1 := h.ty a n c hv
    obtain ⟨cs, h2⟩ := h1
    obtain ⟨T, h3, h4⟩ := hT _ hm (heap_lt h2)
    exact h4 (h3.one ⟨cs, h2⟩)
  exact ⟨h.rd.kept hk key, fun a n c hv => (h.ty a n c hv).kept hk (key a n c hv)⟩
theorem Mo.kept (h : Mo m U uc t w) (hk : Kept M w w') (hm : ¬ M m) (hT : ∀ g, M g → g < w.heap.size → ∃ T, Ty w g T ∧ T ≠ TX) : Mo m U uc t w' :=
  ⟨h.ob.kept hk hm, fun i hi => (h.lines i hi).kept hk hT, h.cr.kept hk hT⟩
theorem Mo.keptF (h : Mo m U uc t w) (hk : Kept (fun _ => False) w w') : Mo m U uc t w' := h.kept hk (fun hh => hh) (fun _ hh => hh.elim)
theorem Mo.below (h : Mo m U uc t w) (hk : Below w.heap.size w w') : Mo m U uc t w' := h.keptF (Kept.of_below hk)
theorem Mo.row (h : Mo m U uc t w) (hk : Kept (Only m) w w') {v : Value} {l : List It} (hr : Rt w v l) : Rt w' v l :=
  hr.kept hk fun g hg _ => ⟨TM, by rw [show g = m from hg]; exact h.ob.ty, by decide⟩
end
def MoPost (m : Nat) (t' : Mp) (w w' : World) : Prop := ∃ U' uc', Mo m U' uc' t' w' ∧ Kept (Only m) w w'
def bsum (l : List It) : Int := (l.map It.bytes).sum
def msum (L : Nat → List It) : Nat → Int
  | 0 => 0
  | k + 1 => msum L k + bsum (L k)
structure It.ok2 (x : It) : Prop where
  dn : x.dn ≤ 1073741824
  len : 0 ≤ x.len ∧ x.len ≤ 1000000
theorem It.ok2.b {x : It} (h : x.ok2) : 26 ≤ x.bytes ∧ x.bytes ≤ 1000026 := by
  unfold It.bytes
  have := h.len
  split <;> omega
theorem It.ok2.sz {x : It} (h : x.ok2) : x.sz = x.bytes := by
  have := h.b
  unfold It.sz clampI
  split
  · omega
  · split <;> omega
theorem bsum_b : ∀ (l : List It), (∀ x ∈ l, x.ok2) → 0 ≤ bsum l ∧ bsum l ≤ l.length * 1000026
  | [], _ => by simp [bsum]
  | x :: l, h => by
    have h1 := bsum_b l fun y hy => h y (List.mem_cons_of_mem _ hy)
    have h2 := (h x List.mem_cons_self).b
    have : bsum (x :: l) = x.bytes + bsum l := by simp [bsum]
    rw [this, List.length_cons]
    push_cast
    omega
def Mp.has (t : Mp) (x : It) : Prop := x ∈ t.C ∨ ∃ i, i < 8 ∧ x ∈ t.L i
structure Mp.ok (N : Nat) (t : Mp) : Prop where
  items : ∀ x, t.has x → x.ok2
  len : ∀ i, i < 8 → (t.L i).length ≤ N
  clen : t.C.length ≤ N
theorem msum_b {N : Nat} {t : Mp} (h : t.ok N) : ∀ k, k ≤ 8 → 0 ≤ msum t.L k ∧ msum t.L k ≤ k * (N * 1000026)
  | 0, _ => by simp [msum]
  | k + 1, hk => by
    have h1 := msum_b h k (by omega)
    have h2 := bsum_b (t.L k) fun x hx => h.items x (.inr ⟨k, by omega, hx⟩)
    have h3 := h.len k (by omega)
    rw [msum]
    push_cast
    have : ((t.L k).length : Int) * 1000026 ≤ (N : Int) * 1000026 := by omega
    constructor
    · omega
    · have : ((k : Int) + 1) * ((N : Int) * 1000026) = (k : Int) * ((N : Int) * 1000026) + (N : Int) * 1000026 := by rw [Int.add_mul, Int.one_mul]
      omega
theorem msize (x : It) (w : World) (hl : 0 ≤ x.len ∧ x.len ≤ 1000000) : Calls Try.prog 53 #[x.frv] w fun e w' => e = .returned (.int .i64 x.bytes) ∧ Below w.heap.size w w' := by
  obtain ⟨h1, h2⟩ := hl
  unfold It.frv
  by_cases hk : x.kind = 1
  · have HK := Lib.hid (show x.bytes = 26 + x.len by unfold It.bytes; rw [if_pos hk])
    have hb : (x.kind == 1) = true := beq_iff_eq.2 hk
    clear hk
    go_enter Try.func53, Try.ntmps53
    go_wp2_with fail
    go_ret
    exact ⟨by rw [HK.out]; rfl, (Below.refl _ _).alloc (Nat.le_refl _) _⟩
  · have HK := Lib.hid (show x.bytes = 26 by unfold It.bytes; rw [if_neg hk])
    have hb : (x.kind == 1) = false := beq_eq_false_iff_ne.2 hk
    clear hk
    go_enter Try.func53, Try.ntmps53
    go_wp2_with fail
    go_ret
    exact ⟨by rw [HK.out]; rfl, (Below.refl _ _).alloc (Nat.le_refl _) _⟩
end Go.Proofs.Ythgkminjhpaakaa
