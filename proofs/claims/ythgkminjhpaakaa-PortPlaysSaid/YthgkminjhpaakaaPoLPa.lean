/- PortPlays: are steps looked at? -/
import Derived.Test.YthgkminjhpaakaaPoZ
import Derived.Test.YthgkminjhpaakaaWireCkB
import Derived.Test.YthgkminjhpaakaaAlike
import Derived.Test.YthgkminjhpaakaaFrame
namespace Go.Proofs.Ythgkminjhpaakaa
open Go.RowKit

/-- a step: what, its frame and its number (the item's path) -/
structure St where
  k : Int
  x : It
def St.row (s : St) : List Value := .int .i64 s.k :: s.x.row
theorem rowSt (s : St) : s.row.length = 12 := rfl
def It.fr (x : It) : Fr := ⟨x.kind, x.src, x.dst, x.prio, x.msg, x.off, x.len, x.total, x.num, x.bs⟩
def St.ok (W0 : World) (s : St) : Prop := 0 ≤ s.x.msg ∧ s.x.dn = s.x.bs.length ∧ Rd W0 1 (.slice s.x.da s.x.dn s.x.dc) s.x.dn (bcells s.x.bs)
theorem ok2_fr {x : It} (h : okF x.fr) (hd : x.dn = x.bs.length) : x.ok2 := by
  have h1 := h.data
  have h2 : 0 ≤ x.len ∧ x.len ≤ 1500 := h.len
  refine ⟨?_, by omega⟩
  have h3 : (x.bs.length : Int) = if x.kind = 1 then x.len else 0 := h1
  split at h3 <;> omega
theorem sum_pair (n d b o cap : Nat) (w : World) (c0 : w.cell? ⟨b, o, none⟩ = some (.int .i64 d)) (c1 : w.cell? ⟨b, o + 1, none⟩ = some (.int .i64 30)) (hn : n ≤ 3000) (hd : d ≤ 9223372036854775807) : Calls Try.prog 39 #[.int .i64 n, .slice (some ⟨b, o, none⟩) 2 cap] w fun e w' => (∃ r : Nat, e = .returned (.int .i64 r) ∧ n + 30 ≤ r ∧ r ≤ 1099511627776) ∧ w = w' := by
  have hbl := World.block_lt_of_cell? w _ c0
  rcases (by omega : 1099511627776 - n < d ∨ (d ≤ 1099511627776 - n ∧ 1099511627776 - (n + d) < 30) ∨ (n + d + 30 ≤ 1099511627776)) with h1 | ⟨h1, h2⟩ | h1
  · have h3 : (1099511627776 : Int) - n < d := by omega
    go_enter Try.func39, Try.ntmps39
    go_wp2_with fail
    go_loopw [0, 5] (fun s i wr => s = .int .i64 n ∧ i = .int .i64 0 ∧ w = wr) (fun _ i _ => (1 - intOf i).toNat)
    case atStart => exact ⟨rfl, rfl, rfl⟩
    case round =>
      obtain ⟨rfl, rfl, rfl⟩ := hrel
      go_wp2_with fail
      go_ret
      exact ⟨⟨1099511627776, rfl, by omega, by omega⟩, rfl⟩
  · have h3 : (d : Int) ≤ 1099511627776 - n := by omega
    have h4 : (1099511627776 : Int) - ((n + d : Nat) : Int) < 30 := by omega
    go_enter Try.func39, Try.ntmps39
    go_wp2_with fail
    go_loopw [0, 5] (fun s i wr => ((s = .int .i64 n ∧ i = .int .i64 0) ∨ (s = .int .i64 ((n + d : Nat) : Int) ∧ i = .int .i64 1)) ∧ w = wr) (fun _ i _ => (2 - intOf i).toNat)
    case atStart => exact ⟨.inl ⟨rfl, rfl⟩, rfl⟩
    case round =>
      obtain ⟨⟨rfl, rfl⟩ | ⟨rfl, rfl⟩, rfl⟩ := hrel
      · go_wp2_with fail
        go_roundw
        case rel => exact ⟨.inr ⟨by go_num, rfl⟩, trivial⟩
        case measure => simp [intOf]
      · go_wp2_with fail
        go_ret
        exact ⟨⟨1099511627776, rfl, by omega, by omega⟩, rfl⟩
  · have h3 : (d : Int) ≤ 1099511627776 - n := by omega
    have h4 : (30 : Int) ≤ 1099511627776 - ((n + d : Nat) : Int) := by omega
    go_enter Try.func39, Try.ntmps39
    go_wp2_with fail
    go_loopw [0, 5] (fun s i wr => ((s = .int .i64 n ∧ i = .int .i64 0) ∨ (s = .int .i64 ((n + d : Nat) : Int) ∧ i = .int .i64 1) ∨ (s = .int .i64 ((n + d + 30 : Nat) : Int) ∧ i = .int .i64 2)) ∧ w = wr) (fun _ i _ => (2 - intOf i).toNat)
    case atStart => exact ⟨.inl ⟨rfl, rfl⟩, rfl⟩
    case round =>
      obtain ⟨⟨rfl, rfl⟩ | ⟨rfl, rfl⟩ | ⟨rfl, rfl⟩, rfl⟩ := hrel
      · go_wp2_with fail
        go_roundw
        case rel => exact ⟨.inr (.inl ⟨by go_num, rfl⟩), trivial⟩
        case measure => simp [intOf]
      · go_wp2_with fail
        go_roundw
        case rel => exact ⟨.inr (.inr ⟨by go_num, rfl⟩), trivial⟩
        case measure => simp [intOf]
      · go_wp2_with fail
        go_ret
        exact ⟨⟨n + d + 30, rfl, by omega, by omega⟩, rfl⟩
def SmallPost (S : List St) (w : World) (e : Ending) (w' : World) : Prop := (∃ b : Bool, e = .returned (.bool b) ∧ (b = true → S.length ≤ 100 ∧ ∀ s ∈ S, s.k = 1 → s.x.ok2 ∧ okF s.x.fr)) ∧ Below w.heap.size w w'
set_option maxRecDepth 100000 in
set_option maxHeartbeats 4000000 in
theorem small_any (S : List St) (v : Value) (w : World) (h : Rd w 12 v S.length (S.flatMap St.row)) (hs : ∀ s ∈ S, s.ok w) : Calls Try.prog 17 #[v] w (SmallPost S w) := by
  obtain ⟨a, ca, rfl, hac, hac2⟩ := h.form
  have HR := Lib.hid h
  have HS := Lib.hid hs
  clear h hs
  go_enter Try.func17, Try.ntmps17
  go_wp2_with fail
  go_loopw [3, 4] (fun n i wr => ∃ j r : Nat, j ≤ S.length ∧ i = .int .i64 j ∧ n = .int .i64 r ∧ 30 * j ≤ r ∧ r ≤ 1099511627776 ∧ Hid (∀ s ∈ S.take j, s.k = 1 → okF s.x.fr) ∧ Below w.heap.size w wr) (fun _ i _ => S.length - (intOf i).toNat)
  case atStart => exact ⟨0, 0, by omega, rfl, rfl, by omega, by omega, Lib.hid (by simp), Below.refl _ _⟩
  case round =>
    obtain ⟨j, r, hj, rfl, rfl, hr1, hr2, HE, hb⟩ := hrel
    have HB := Lib.hid hb
    have sw := hb.size
    clear hb
    rename World => wi
    by_cases hlt : j < S.length
    · by_cases hr : r ≤ 3000
      · obtain ⟨g, o, hgo, hg, hc⟩ := (HR.out.below HB.out).row rowSt (by decide) j hlt
        cases hgo
        have hso := HS.out _ (List.getElem_mem hlt)
        have HT := Lib.hid (show S.take (j + 1) = S.take j ++ [S[j]] from List.take_succ_eq_append_getElem hlt)
        generalize S[j] = s at hc hso HT
        have cq0 : wi.cell? ⟨g, o + j * 12, none⟩ = some (.int .i64 s.k) := hc 0 _ rfl
        have cq1 : wi.cell? ⟨g, o + j * 12 + 1, none⟩ = some (.int .i64 s.x.kind) := hc 1 _ rfl
        have cq2 : wi.cell? ⟨g, o + j * 12 + 2, none⟩ = some (.int .i64 s.x.src) := hc 2 _ rfl
        have cq3 : wi.cell? ⟨g, o + j * 12 + 3, none⟩ = some (.int .i64 s.x.dst) := hc 3 _ rfl
        have cq4 : wi.cell? ⟨g, o + j * 12 + 4, none⟩ = some (.int .i64 s.x.prio) := hc 4 _ rfl
        have cq5 : wi.cell? ⟨g, o + j * 12 + 5, none⟩ = some (.int .u64 s.x.msg) := hc 5 _ rfl
        have cq6 : wi.cell? ⟨g, o + j * 12 + 6, none⟩ = some (.int .i64 s.x.off) := hc 6 _ rfl
        have cq7 : wi.cell? ⟨g, o + j * 12 + 7, none⟩ = some (.int .i64 s.x.len) := hc 7 _ rfl
        have cq8 : wi.cell? ⟨g, o + j * 12 + 8, none⟩ = some (.int .i64 s.x.total) := hc 8 _ rfl
        have cq9 : wi.cell? ⟨g, o + j * 12 + 9, none⟩ = some (.int .i64 s.x.num) := hc 9 _ rfl
        have cq10 : wi.cell? ⟨g, o + j * 12 + 10, none⟩ = some (.slice s.x.da s.x.dn s.x.dc) := hc 10 _ rfl
        have cq11 : wi.cell? ⟨g, o + j * 12 + 11, none⟩ = some (.int .i64 s.x.path) := hc 11 _ rfl
        have hdn : s.x.dn ≤ 9223372036854775807 := by
          obtain ⟨_, _, h1, h2, h3⟩ := hso.2.2.form
          injection h1 with _ h4 h5
          omega
        have HSO := Lib.hid hso
        have hdl := hso.2.1
        rw [hdl] at cq10 hdn
        clear hc hso hdl
        have OZ := Lib.hid (Ob.new wi #[.int .i64 s.x.bs.length, .int .i64 30] 3)
        have BA := Lib.hid (HB.out.alloc sw (.cells #[.int .i64 s.x.bs.length, .int .i64 30] 3))
        go_wp2_with fail
        refine (sum_pair r s.x.bs.length wi.heap.size 0 2 _ ((OZ.out.blk).2.1 0) ((OZ.out.blk).2.1 1) hr hdn).mono ?_
        rintro e w3 ⟨⟨r', rfl, hr3, hr4⟩, rfl⟩
        have hck := check_ref s.x.fr s.x.da s.x.dc HSO.out.1 (wi.alloc (.cells #[.int .i64 s.x.bs.length, .int .i64 30] 3))
        replace hck : Calls Try.prog 40 #[.agg #[.int .i64 s.x.kind, .int .i64 s.x.src, .int .i64 s.x.dst, .int .i64 s.x.prio, .int .u64 s.x.msg, .int .i64 s.x.off, .int .i64 s.x.len, .int .i64 s.x.total, .int .i64 s.x.num, .slice s.x.da s.x.bs.length s.x.dc]] (wi.alloc (.cells #[.int .i64 s.x.bs.length, .int .i64 30] 3)) (CheckPost s.x.fr _) := hck
        go_wp2_with fail
        refine (hck).mono ?_
        rintro e w4 ⟨hk, hb4⟩
        have B4 := Lib.hid (BA.out.trans (hb4.mono BA.out.size))
        have R4 := Lib.hid ((HR.out.below B4.out))
        have hcq0 : w4.cell? ⟨g, o + j * 12, none⟩ = some (.int .i64 s.k) := ((Kept.of_below (M := fun _ => False) (((Below.refl wi.heap.size wi).alloc (Nat.le_refl _) (.cells #[.int .i64 s.x.bs.length, .int .i64 30] 3)).trans (hb4.mono (by rw [World.size_alloc]; omega)))).cell g (o + j * 12) hg (fun h => h)).trans cq0
        clear hck hb4 cq0 cq1 cq2 cq3 cq4 cq5 cq6 cq7 cq8 cq9 cq10 cq11
        rcases hk with ⟨hok, rfl⟩ | ⟨hno, rfl⟩
        · have HOK := Lib.hid hok
          clear hok
          go_wp2_with fail
          go_roundw
          case rel => exact ⟨j + 1, r', by omega, by go_num, rfl, by omega, by omega, Lib.hid (fun z hz hzk => by
            rw [HT.out] at hz
            rcases List.mem_append.1 hz with hz | hz
            · exact HE.out z hz hzk
            · rw [List.mem_singleton.1 hz]; exact HOK.out), B4.out⟩
          case measure => simp [intOf]; omega
        · have HNO := Lib.hid hno
          clear hno
          by_cases hk1 : s.k = 1
          · have hkb : (s.k == 1) = true := beq_iff_eq.2 hk1
            clear hk1
            go_wp2_with fail
            go_ret
            exact ⟨⟨false, rfl, by simp⟩, B4.out⟩
          · have hkb : (s.k == 1) = false := beq_eq_false_iff_ne.2 hk1
            have HK1 := Lib.hid hk1
            clear hk1
            go_wp2_with fail
            go_roundw
            case rel => exact ⟨j + 1, r', by omega, by go_num, rfl, by omega, by omega, Lib.hid (fun z hz hzk => by
              rw [HT.out] at hz
              rcases List.mem_append.1 hz with hz | hz
              · exact HE.out z hz hzk
              · rw [List.mem_singleton.1 hz] at hzk; exact absurd hzk HK1.out), B4.out⟩
            case measure => simp [intOf]; omega
      · go_wp2_with fail
        go_ret
        exact ⟨⟨_, rfl, fun hb => by simp at hb; omega⟩, HB.out⟩
    · obtain rfl : j = S.length := by omega
      have HE2 := Lib.hid (fun s (hs : s ∈ S) hk => HE.out s (by rw [List.take_length]; exact hs) hk)
      go_wp2_with fail
      go_ret
      refine ⟨⟨_, rfl, fun hb => ⟨?_, fun s hs hk => ?_⟩⟩, HB.out⟩
      · simp at hb
        omega
      · have h1 := HE2.out s hs hk
        exact ⟨ok2_fr h1 (HS.out s hs).2.1, h1⟩
end Go.Proofs.Ythgkminjhpaakaa
