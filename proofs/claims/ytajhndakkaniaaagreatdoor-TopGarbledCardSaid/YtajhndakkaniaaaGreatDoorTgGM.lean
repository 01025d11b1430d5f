/- A config of some hosts, and one of three engines. -/
import Derived.Test.YtajhndakkaniaaaGreatDoorAlike
import Derived.Test.YtajhndakkaniaaaGreatDoorTgM
import Derived.Test.YtajhndakkaniaaaGreatDoorTopFM
import Derived.Test.YtajhndakkaniaaaGreatDoorRun
namespace Go.Proofs.YtajhndakkaniaaaGreatDoor
open Go.RowKit

def cfgWin (e : Int) : Int := if e = 0 then 200 else if e = 1 then 2 else 0
def cfgBud (e m : Int) : Int := if e = 0 then 3 * m + 100 else 0
def cfgV (e h m t : Int) : Value := .agg #[.int .i64 (1 + e), .int .i64 h, .int .i64 2, .int .i64 m, .int .i64 (cfgWin e), .int .i64 3, .int .i64 (cfgBud e m), .int .i64 (6 * (26 + m)), .int .i64 4, .int .i64 t, .int .i64 20, .int .i64 40, .int .i64 0, .int .u64 1000]
set_option maxHeartbeats 4000000 in
theorem config_any (kind hosts mtu tables : Int) (w : World) : Calls Tryz.prog 6 #[.int .i64 kind, .int .i64 hosts, .int .i64 mtu, .int .i64 tables] w fun e w' => e = .returned (cfgV (kind % 3) (2 + hosts % 5) (50 + mtu % 200) (2 + tables % 6)) ∧ Below w.heap.size w w' := by
  go_enter Tryz.func6, Tryz.ntmps6
  go_wp2_with fail
  refine (round_any kind 3 _ (by decide) (by decide)).mono ?_
  rintro e w1 ⟨rfl, rfl⟩
  go_wp2_with fail
  refine (round_any hosts 5 _ (by decide) (by decide)).mono ?_
  rintro e w1 ⟨rfl, rfl⟩
  go_wp2_with fail
  refine (round_any mtu 200 _ (by decide) (by decide)).mono ?_
  rintro e w1 ⟨rfl, rfl⟩
  go_wp2_with fail
  refine (round_any tables 6 _ (by decide) (by decide)).mono ?_
  rintro e w1 ⟨rfl, rfl⟩
  have b1 := Int.emod_nonneg kind (show (3 : Int) ≠ 0 by decide)
  have b2 := Int.emod_lt_of_pos kind (show (0 : Int) < 3 by decide)
  have b3 := Int.emod_nonneg hosts (show (5 : Int) ≠ 0 by decide)
  have b4 := Int.emod_lt_of_pos hosts (show (0 : Int) < 5 by decide)
  have b5 := Int.emod_nonneg mtu (show (200 : Int) ≠ 0 by decide)
  have b6 := Int.emod_lt_of_pos mtu (show (0 : Int) < 200 by decide)
  have b7 := Int.emod_nonneg tables (show (6 : Int) ≠ 0 by decide)
  have b8 := Int.emod_lt_of_pos tables (show (0 : Int) < 6 by decide)
  obtain ⟨e, HE⟩ : ∃ e, Hid (kind % 3 = e) := ⟨_, Lib.hid rfl⟩
  rw [HE.out] at b1 b2 ⊢
  obtain ⟨h, HH⟩ : ∃ h, Hid (hosts % 5 = h) := ⟨_, Lib.hid rfl⟩
  rw [HH.out] at b3 b4 ⊢
  obtain ⟨m, HM⟩ : ∃ m, Hid (mtu % 200 = m) := ⟨_, Lib.hid rfl⟩
  rw [HM.out] at b5 b6 ⊢
  obtain ⟨t, HT⟩ : ∃ t, Hid (tables % 6 = t) := ⟨_, Lib.hid rfl⟩
  rw [HT.out] at b7 b8 ⊢
  have he : e = 0 ∨ e = 1 ∨ e = 2 := by omega
  rcases he with rfl | rfl | rfl
  · go_wp2_with fail
    refine done (cfgV 0 (2 + h) (50 + m) (2 + t)) rfl (by simp [cfgV, cfgWin, cfgBud, results, Tryz.results6, go_sem]) ⟨by rw [HE.out, HH.out, HM.out, HT.out], ?_⟩
    exact ((Below.refl w.heap.size w).alloc (Nat.le_refl _) _).alloc (by simp) _
  · go_wp2_with fail
    refine done (cfgV 1 (2 + h) (50 + m) (2 + t)) rfl (by simp [cfgV, cfgWin, cfgBud, results, Tryz.results6, go_sem]) ⟨by rw [HE.out, HH.out, HM.out, HT.out], ?_⟩
    exact ((Below.refl w.heap.size w).alloc (Nat.le_refl _) _).alloc (by simp) _
  · go_wp2_with fail
    refine done (cfgV 2 (2 + h) (50 + m) (2 + t)) rfl (by simp [cfgV, cfgWin, cfgBud, results, Tryz.results6, go_sem]) ⟨by rw [HE.out, HH.out, HM.out, HT.out], ?_⟩
    exact ((Below.refl w.heap.size w).alloc (Nat.le_refl _) _).alloc (by simp) _
end Go.Proofs.YtajhndakkaniaaaGreatDoor
/- TopGarbled, walked: whatever the frame, the cuts and the bytes are, and whichever engine it is. -/
namespace Go.Proofs.YtajhndakkaniaaaGreatDoor
open Go.RowKit

theorem quiet_str {P : Program} {ops : Array Oper} {C : World → Prop} {Q : Act → Prop} {rest : List Oper} {o : Oper} {a : Act} (hw : Region.wanted o (yielded ops a.tmps) = true) (src dst : TypeId) (x : Operand) (ho : o.op = .convert src dst x) {e : TypeId}
    (hs : P.underlying src = some (.slice e)) (he : P.underlying e = some (.int .u8)) (hd : P.underlying dst = some .string) {v : Value} {l : List UInt8} (h : ∀ w, C w → Rd w 1 v l.length (bcells l)) (hx : a.eval x = v)
    (hk : wpQuiet P ops C Q rest (a.put o.dst (.string ⟨l.toArray⟩))) : wpQuiet P ops C Q (o :: rest) a := by
  unfold wpQuiet
  rw [if_pos hw]
  refine ⟨_, fun w hc => ?_, hk⟩
  unfold Oper.quietAt
  simp [execOp, ho, hx, run_str hs he hd (h w hc), Oper.quietUpon]
abbrev TBs : TypeId := 33
abbrev cfgC (e w b : Int) : Value := .agg #[.int .i64 e, .int .i64 3, .int .i64 2, .int .i64 110, .int .i64 w, .int .i64 3, .int .i64 b, .int .i64 816, .int .i64 4, .int .i64 7, .int .i64 20, .int .i64 40, .int .i64 0, .int .u64 1000]
/-- what stands in the law's loop -/
structure Gl (B : Nat) (φ : Ev.Ren) (w0 : World) (m : Nm) (K : Ev.Hp) (L : List UInt8) (va : Option Addr) (cap : Nat) (ψ : Ev.Ren) (w : World) : Prop where
  g : Gs B φ w0 m K ψ w
  off : Off K ψ (.slice va L.length cap) w
  rd : Rd w 1 (.slice va L.length cap) L.length (bcells L)
theorem Gl.below {B : Nat} {φ : Ev.Ren} {w0 : World} {m : Nm} {K : Ev.Hp} {L : List UInt8} {va : Option Addr} {cap : Nat} {ψ : Ev.Ren} {w w' : World} (h : Gl B φ w0 m K L va cap ψ w) (hb : Below w.heap.size w w') : Gl B φ w0 m K L va cap ψ w' := ⟨h.g.below hb, h.off.size hb.size, h.rd.below hb⟩
set_option maxRecDepth 100000 in
set_option maxHeartbeats 8000000 in
theorem garb_in {m : Nm} {K0 K1 K2 : Ev.Hp} {E W Bd : Int} (hf : Facts m K0 K1 K2 E W Bd) (kind : Int) (hcfg : cfgV (kind % 3) (2 + 1 % 5) (50 + 60 % 200) (2 + 5 % 6) = cfgC E W Bd) (f : Fr) (v : Value) (cl : List Int) (cv : Value) (rl : List UInt8) (rv : Value) (w : World) (hm : 0 ≤ f.msg) (hd : Rd w 1 v f.data.length (bcells f.data)) (hc : Rd w 1 cv cl.length (cl.map (Value.int .i64))) (hr : Rd w 1 rv rl.length (bcells rl)) (hl1 : f.data.length ≤ 1500) (hl2 : cl.length ≤ 20) (hl3 : rl.length ≤ 200) :
    Calls Tryz.prog 4 #[.int .i64 kind, f.val v, cv, rv] w (TrueBelow w) := by
  obtain ⟨HN, dB, HB, HS, en, eb, es, esub, z0, z1, z2⟩ := Ev.newOk_ok hf.new
  have HF := Lib.hid hf
  have HC := Lib.hid hcfg
  have HEN := Lib.hid (And.intro en (And.intro eb (And.intro es (And.intro esub (And.intro z0 (And.intro z1 z2))))))
  clear hf hcfg en eb es esub z0 z1 z2
  obtain ⟨v, cp, rfl, v1, v2⟩ := hd.form
  obtain ⟨cv, cc, rfl, c1, c2⟩ := hc.form
  obtain ⟨rv, rc, rfl, r1, r2⟩ := hr.form
  have HD := Lib.hid hd
  have HCU := Lib.hid hc
  have HR := Lib.hid hr
  have HEN2 := Lib.hid (fun W (h : Rd W 1 (.slice v f.data.length cp) f.data.length (bcells f.data)) => enc_cut f (.slice v f.data.length cp) hm W h hl1)
  clear hd hc hr
  unfold Fr.val at HEN2 ⊢
  have BF := Lib.hid ((Below.refl w.heap.size w).alloc (Nat.le_refl _) (.cells #[.int .i64 f.kind, .int .i64 f.src, .int .i64 f.dst, .int .i64 f.prio, .int .u64 f.msg, .int .i64 f.off, .int .i64 f.len, .int .i64 f.total, .int .i64 f.num, .slice v f.data.length cp] 44))
  have OF := Lib.hid (Ob.new w #[.int .i64 f.kind, .int .i64 f.src, .int .i64 f.dst, .int .i64 f.prio, .int .u64 f.msg, .int .i64 f.off, .int .i64 f.len, .int .i64 f.total, .int .i64 f.num, .slice v f.data.length cp] 44)
  go_enter Tryz.func4, Tryz.ntmps4
  go_wp2_with fail
  refine (config_any kind 1 60 5 _).mono ?_
  rintro e w1 ⟨rfl, hb1⟩
  rw [HC.out]
  have B1 := Lib.hid (BF.out.trans (hb1.mono BF.out.size))
  have OF1 : Hid (Ob w1 w.heap.size _ _) := Lib.hid (OF.out.below hb1)
  clear hb1 BF OF
  have B1a := Lib.hid (B1.out.alloc B1.out.size (.cells #[.int .i64 E, .int .i64 3, .int .i64 2, .int .i64 110, .int .i64 W, .int .i64 3, .int .i64 Bd, .int .i64 816, .int .i64 4, .int .i64 7, .int .i64 20, .int .i64 40, .int .i64 0, .int .u64 1000] 25))
  have OF1a := Lib.hid (OF1.out.alloc (.cells #[.int .i64 E, .int .i64 3, .int .i64 2, .int .i64 110, .int .i64 W, .int .i64 3, .int .i64 Bd, .int .i64 816, .int .i64 4, .int .i64 7, .int .i64 20, .int .i64 40, .int .i64 0, .int .u64 1000] 25))
  go_wp2_with fail
  refine ((Ev.ev_ok w.heap.size 60 _ _ _ _ _ HEN.out.1).2 (fun _ => none) #[cfgC E W Bd] _ rfl (Ev.sr_nil _ _ _) B1a.out.size).mono ?_
  rintro e w2 ⟨u, φ1, rfl, hu, hx⟩
  simp only [Ev.tvV, Ev.svsV, Ev.svV, Ev.cvV, Ev.ptrV] at hu
  obtain ⟨lx, hlx⟩ : ∃ l, φ1 m.x = some l := by
    cases h : φ1 m.x with
    | none => rw [h] at hu; cases hu
    | some l => exact ⟨l, rfl⟩
  rw [hlx] at hu
  cases hu
  have hb2 : Below w.heap.size w w2 := B1a.out.trans ⟨hx.os, hx.tape, hx.output, hx.size, fun b hb => hx.frame b (Nat.lt_of_lt_of_le hb B1a.out.size) fun x o l ho => by
    rw [show (Ev.Hp.mk Ev.Tr.nil Ev.Bn.z).t.get x = none from Ev.Tr.get_nil x] at ho
    cases ho⟩
  have A2 : Hid (At w.heap.size φ1 w HN φ1 w2) := Lib.hid ⟨hx.sr, Ev.Le.refl _, hb2, hb2.size⟩
  have HX := Lib.hid hlx
  have OF2 : Hid (Ob w2 w.heap.size _ _) := Lib.hid (Ob.kept OF1a.out hx.kept (by
    rintro ⟨x, o, l, ho, _⟩
    rw [show (Ev.Hp.mk Ev.Tr.nil Ev.Bn.z).t.get x = none from Ev.Tr.get_nil x] at ho
    cases ho))
  obtain ⟨lf, cf, ff⟩ := OF2.out.blk
  clear hx hlx hb2 B1 B1a OF1 OF1a
  go_wp2_with fail
  refine (HEN2.out _ (HD.out.below A2.out.bel)).mono ?_
  rintro e w3 ⟨L, va, cap, r, rfl, ho, hL, hcut, hb3⟩
  have R3 := Lib.hid (Rd.of_own ho)
  have O3 := Lib.hid (Off.fresh A2.out.sr ho)
  have A3 := Lib.hid (A2.out.below hb3)
  have HCT := Lib.hid hcut
  clear ho hcut hb3 A2
  go_wp2_with fail
  refine (A3.out.call HEN.out.2.1 (args := #[.int .i64 300, .int .i64 5]) rfl).mono ?_
  rintro e w4 ⟨u, φ2, rfl, hu, hx, hat⟩
  have O4 := Lib.hid (O3.out.ext hx)
  have R4 := Lib.hid (O3.out.rd R3.out hx.kept)
  have A4 := Lib.hid hat
  have HU := Lib.hid hu
  clear hx hat hu O3 R3 A3
  go_wp2_with fail
  refine (A4.out.call HEN.out.2.2.1 (args := #[.pointer (some ⟨lx.b, lx.s, none⟩), .int .i64 0, .int .i64 2, u]) (Ev.tvs_cons (Ev.tv_pt (A4.out.le _ _ HX.out)) (Ev.tvs_cons rfl (Ev.tvs_cons rfl (Ev.tvs_cons HU.out rfl))))).mono ?_
  rintro e w5 ⟨u', φ3, rfl, hu, hx, hat⟩
  cases hu
  have G5 : Hid (Gl w.heap.size φ1 w m (kst K0 K1 K2 0) L va cap φ3 w5) := Lib.hid ⟨⟨hat.sub (Ev.Sub.of HEN.out.2.2.2.1), all3 ⟨0, Ev.NumAt.of hx.sr HEN.out.2.2.2.2.1⟩ ⟨0, Ev.NumAt.of hx.sr HEN.out.2.2.2.2.2.1⟩ ⟨0, Ev.NumAt.of hx.sr HEN.out.2.2.2.2.2.2⟩⟩, (O4.out.ext hx).sub HEN.out.2.2.2.1, O4.out.rd R4.out hx.kept⟩
  clear hx hat A4 O4 R4 HU
  go_wp2_with fail
  obtain ⟨B, hB⟩ : ∃ B, w.heap.size = B := ⟨_, rfl⟩
  rw [hB] at G5
  have HBQ := Lib.hid hB
  clear hB
  go_loopw [16] (fun i wr => ∃ (n : Nat) (ψ : Ev.Ren), i = .int .i64 n ∧ n ≤ cl.length ∧ Gl B φ1 w m (kst K0 K1 K2 n) L va cap ψ wr) (fun i _ => cl.length - (intOf i).toNat)
  case atStart => exact ⟨0, φ3, rfl, Nat.zero_le _, G5.out⟩
  case round =>
    obtain ⟨n, ψ, rfl, hn, hg⟩ := hrel
    have HG := Lib.hid hg
    clear hg G5
    rename World => wi
    by_cases hlt : n < cl.length
    · obtain ⟨zb, zo, zc, hze, _, _, hzb, hzc⟩ := HCU.out.some (by omega) (by decide)
      cases hze
      have hz0 := hzc n (.int .i64 cl[n]) (by rw [List.getElem?_map, List.getElem?_eq_getElem hlt]; rfl)
      have hz1 : wi.cell? ⟨zb, zo + n, none⟩ = some (.int .i64 cl[n]) := (HG.out.g.at'.bel.cell (p := ⟨zb, zo + n, none⟩) (by rw [← HBQ.out]; exact hzb)).trans hz0
      have hkd : decide ((n : Int) < cl.length) = true := decide_eq_true (by omega)
      clear hzc hz0
      generalize cl[n] = z at *
      obtain ⟨k, HK, hk⟩ : ∃ k : Nat, Hid (z % ((L.length : Int) + 1) = (k : Int)) ∧ k ≤ L.length := by
        have e1 := Int.emod_nonneg z (b := (L.length : Int) + 1) (by omega)
        have e2 := Int.emod_lt_of_pos z (b := (L.length : Int) + 1) (by omega)
        exact ⟨(z % ((L.length : Int) + 1)).toNat, Lib.hid (by omega), by omega⟩
      have R0 := HG.out.rd
      have hkc : k ≤ cap := by
        obtain ⟨a0, c0, he, h1, _⟩ := R0.form
        cases he
        omega
      have hcond : k < L.length ∨ k = L.length := by omega
      go_upto_if 91 with (first
        | (go_at_call 15; refine (round_any _ _ _ (by omega) (by omega)).mono ?_; rintro e w' ⟨rfl, rfl⟩; rw [HK.out])
        | (refine wpList_slTo rfl _ _ _ rfl Tryz.underlying33 info_u8 rfl rfl (by omega) ?_))
      go_cut [17] from 71 to 133 (fun s13 wx => ∃ (X : List UInt8) (xa : Option Addr) (xc : Nat), s13 = .slice xa X.length xc ∧ Rd wx 1 (.slice xa X.length xc) X.length (bcells X) ∧ Off (kst K0 K1 K2 n) ψ (.slice xa X.length xc) wx ∧ ¬ goodB X ∧ X.length ≤ 100000 ∧ Gl B φ1 w m (kst K0 K1 K2 n) L va cap ψ wx)
      case first =>
        rcases hcond with hc2 | hc2
        · have hne : decide ((k : Int) = (L.length : Int)) = false := decide_eq_false (by omega)
          go_wp2_with fail
          go_meet
          have hlen : (L.take k).length = k := by rw [List.length_take]; omega
          have hr := rd_to R0 k (by omega)
          exact ⟨L.take k, va, cap, by rw [hlen], by rw [hlen] at hr ⊢; exact hr, HG.out.off.to, HCT.out k hc2, by omega, HG.out⟩
        · subst hc2
          have HOH : Hid ((wi.alloc (.cells #[.int .u8 13] 5)).ownsRow wi.heap.size 5 1 (.slice (some ⟨wi.heap.size, 0, none⟩) 1 1) 1 [.int .u8 13]) := Lib.hid (own_lit (e := 5) wi [.int .u8 13] wi.heap.size (Nat.le_refl _) (by decide))
          have HRW := Lib.hid ((HR.out.below (by rw [HBQ.out]; exact HG.out.g.at'.bel)).alloc (.cells #[.int .u8 13] 5))
          go_wp2_with (at_builtin; refine wpList_appS rfl (.tmp 92) (.tmp 93) 33 rfl info_u8 Tryz.underlying33 rfl (by decide) HOH.out HRW.out rfl rfl (bcells_one _) (by omega) (by simp) ?_)
          intro v5 w5 ho5 hg5
          obtain ⟨x5, xc5, rfl, _, _⟩ := (Rd.of_own ho5).form
          have hb5 : Below wi.heap.size wi w5 := (((Below.refl wi.heap.size wi).alloc (Nat.le_refl _) (.cells #[.int .u8 13] 5))).trans (grown_below HOH.out hg5 (by simp))
          have H5 := Lib.hid (And.intro ho5 hb5)
          clear ho5 hb5 hg5
          go_wp2_with fail
          go_meet
          have e5 : (13 :: rl : List UInt8).length = 1 + rl.length := by rw [List.length_cons]; omega
          have c5 : bcells (13 :: rl) = [Value.int .u8 13] ++ bcells rl := rfl
          have ho : w5.ownsRow wi.heap.size 5 1 (.slice x5 (13 :: rl : List UInt8).length xc5) (13 :: rl : List UInt8).length (bcells (13 :: rl)) := by
            rw [e5, c5]
            exact H5.out.1
          exact ⟨13 :: rl, x5, xc5, by rw [e5], Rd.of_own ho, Off.fresh HG.out.g.at'.sr ho, raw_bad rl, by simp; omega, HG.out.below H5.out.2⟩
      case rest =>
        obtain ⟨X, xa, xc, rfl, hxr, hxo, hxb, hxl, hgx⟩ := hcut
        rename World => wx
        have HXR := Lib.hid hxr
        have HXO := Lib.hid hxo
        have HXB := Lib.hid hxb
        have HGX := Lib.hid hgx
        have hz2 : wx.cell? ⟨zb, zo + n, none⟩ = some (.int .i64 z) := by
          rw [← hz1]
          exact (HGX.out.g.at'.bel.cell (p := ⟨zb, zo + n, none⟩) (by rw [← HBQ.out]; exact hzb)).trans (HG.out.g.at'.bel.cell (p := ⟨zb, zo + n, none⟩) (by rw [← HBQ.out]; exact hzb)).symm
        clear hxr hxo hxb hgx hz1 HG R0
        go_wp2_with fail
        refine (decode_ref X _ wx HXR.out hxl).mono ?_
        rintro e w6 ⟨⟨hg, _⟩ | ⟨_, rfl⟩, hb6⟩
        · exact absurd hg HXB.out
        have hz6 : Below w6.heap.size w6 (w6.alloc (.cells #[.int .i64 0, .int .i64 0, .int .i64 0, .int .i64 0, .int .u64 0, .int .i64 0, .int .i64 0, .int .i64 0, .int .i64 0, .slice none 0 0] 44)) := (Below.refl _ _).alloc (Nat.le_refl _) _
        have G6 := Lib.hid ((HGX.out.below hb6).below hz6)
        have R6 := Lib.hid ((HXR.out.below hb6).below hz6)
        have F6 := Lib.hid ((HXO.out.size hb6.size).size hz6.size)
        have hz3 : w6.cell? ⟨zb, zo + n, none⟩ = some (.int .i64 z) := (hb6.cell (p := ⟨zb, zo + n, none⟩) (cell_lt hz2)).trans hz2
        have hl6 : zb < w6.heap.size := cell_lt hz3
        have hn6 : zb ≠ w6.heap.size := Nat.ne_of_lt hl6
        clear hb6 hz2 hz6 HGX HXR HXO
        obtain ⟨j, HJ, hj⟩ : ∃ j : Nat, Hid (z % 3 = (j : Int)) ∧ j < 3 := by
          have e1 := Int.emod_nonneg z (b := 3) (by decide)
          have e2 := Int.emod_lt_of_pos z (b := 3) (by decide)
          exact ⟨(z % 3).toNat, Lib.hid (by omega), by omega⟩
        unfold zeroF
        go_wp2_with (go_at_call 15; refine (round_any _ _ _ (by decide) (by decide)).mono ?_; rintro e w' ⟨rfl, rfl⟩; rw [HJ.out])
        refine (garble_gs G6.out.g (HF.out.lay n) HX.out j hj X _ R6.out HXB.out).mono ?_
        rintro e w7 ⟨rfl, hg7, hk7⟩
        have R7 := Lib.hid (F6.out.rd R6.out hk7)
        have G7 : Hid (Gl B φ1 w m (kst K0 K1 K2 n) L va cap ψ w7) := Lib.hid ⟨hg7, G6.out.off.size hk7.size, G6.out.off.rd G6.out.rd hk7⟩
        clear hg7 hk7 G6 R6 F6 hz3 hl6 hn6
        go_wp2_with fail
        refine (decode_any X _ _ R7.out).mono ?_
        rintro e w8 ⟨⟨hg, _⟩ | ⟨_, rfl⟩, hb8⟩
        · exact absurd hg HXB.out
        have hz8 : Below w8.heap.size w8 (w8.alloc (.cells #[.int .i64 0, .int .i64 0, .int .i64 0, .int .i64 0, .int .u64 0, .int .i64 0, .int .i64 0, .int .i64 0, .int .i64 0, .slice none 0 0] 44)) := (Below.refl _ _).alloc (Nat.le_refl _) _
        have G8 := Lib.hid ((G7.out.below hb8).below hz8)
        clear hb8 hz8 G7 R7
        unfold zeroF
        go_wp2_with fail
        refine (call_gs G8.out.g (HF.out.lay n) (HF.out.step n) (args := #[.pointer (some ⟨lx.b, lx.s, none⟩), .int .i64 ((n : Int) % 3), .int .i64 n]) (Ev.tvs_cons (Ev.tv_pt (G8.out.g.at'.le _ _ HX.out)) rfl)).mono ?_
        rintro e w9 ⟨⟨u9, rfl⟩, ψ9, hg9, hk9, hn9⟩
        have G9 : Hid (Gl B φ1 w m (kst K0 K1 K2 (n + 1)) L va cap ψ9 w9) := Lib.hid ⟨hg9, G8.out.off.step hk9.size hn9, G8.out.off.rd G8.out.rd hk9⟩
        clear hg9 hk9 hn9 G8
        go_wp2_with fail
        go_roundw
        case rel => exact ⟨n + 1, ψ9, by go_num, by omega, G9.out⟩
        case measure => simp [intOf]; omega
    · have hkd : decide ((n : Int) < cl.length) = false := decide_eq_false (by omega)
      obtain ⟨N, F, hbnd, hends, hfin⟩ := HF.out.fin n
      obtain ⟨r2, H2, eb, hN, hr2, hsb⟩ := Ev.bndOk_ok hbnd
      obtain ⟨a, zz, o, d, q, e2, F1, F2, F3, u2, l2, bs, ep, ebk, d1, d2, d3, est⟩ := Ev.finOk_ok hfin
      have HE1 := Lib.hid (And.intro eb (And.intro hN (And.intro hr2 (And.intro hsb hends))))
      have HE2 := Lib.hid (And.intro ep (And.intro ebk (And.intro d1 (And.intro d2 (And.intro d3 est)))))
      have A0 := Lib.hid HG.out.g.at'
      clear eb hN hr2 hsb hends hbnd hfin ep ebk d1 d2 d3 est HG
      go_wp2_with fail
      refine (A0.out.call HE1.out.1 (args := #[.pointer (some ⟨lx.b, lx.s, none⟩)]) (Ev.tvs_cons (Ev.tv_pt (A0.out.le _ _ HX.out)) rfl)).mono ?_
      rintro e w1' ⟨u, ψ1, rfl, hu, hx1, _⟩
      cases hu
      have A1 := Lib.hid (A0.out.back hx1 HE1.out.2.2.2.1)
      clear hx1 A0
      go_wp2_with fail
      refine (fair_any (r2 : Int) HE1.out.2.2.2.2 (by have := HE1.out.2.1; omega) (by have := HE1.out.2.2.1; omega) A1.out HX.out).mono ?_
      rintro e w2' ⟨k2, ψ2, rfl, hat⟩
      have A2 := Lib.hid hat
      clear hat A1
      go_wp2_with fail
      refine (A2.out.call HE2.out.1 (args := #[.pointer (some ⟨lx.b, lx.s, none⟩), .int .i64 2]) (Ev.tvs_cons (Ev.tv_pt (A2.out.le _ _ HX.out)) rfl)).mono ?_
      rintro e w3' ⟨u, ψ3, rfl, hu, _, hat⟩
      simp only [Ev.tvV, Ev.svsV, Ev.svV, Ev.cvsV] at hu
      obtain ⟨T3, st3, cs3, hzz⟩ := Ev.dataC_name HE2.out.2.2.1
      obtain ⟨lz, _, _, _, hlz, _⟩ := hat.sr.block hzz
      obtain ⟨vs, hvs⟩ : ∃ v, Ev.cvV ψ3 (.s zz o d q e2) = some v := by
        cases h : Ev.cvV ψ3 (.s zz o d q e2) with
        | none => rw [h] at hu; simp [Ev.cvV] at hu
        | some v => exact ⟨v, rfl⟩
      have hrm := Ev.dataC_rd hat.sr HE2.out.2.2.1 HE2.out.2.2.2.2.1 hvs
      have ek : ∀ v, Ev.cvV ψ3 (.k v) = some v := fun _ => rfl
      simp only [ek, hvs] at hu
      cases hu
      have hzs : ∀ x l c, vs = .slice (some x) l c → x.block = lz.b := by
        intro x l c hv
        rw [hv] at hvs
        simp only [Ev.cvV, hlz] at hvs
        split at hvs
        · cases hvs
          rfl
        · cases hvs
      have hoff := Ev.named_kill hat.sr (Ev.Hp.cells_get hzz) hlz
      have AK := Lib.hid (hat.ext (Ev.SR.kill hat.sr zz))
      have HM : Hid (∀ x l c, vs = .slice (some x) l c → ¬ Ev.Named (F1.kill zz) ψ3 x.block) := Lib.hid fun x l c hv => by
        rw [hzs x l c hv]
        exact hoff
      have RM := Lib.hid hrm
      clear hat A2 hvs hzs hoff hrm hlz hzz ek
      obtain ⟨sa, sc, rfl, s1, s2⟩ := RM.out.form
      have hmn : ¬ Ev.Named (F1.kill zz) ψ3 w3'.heap.size := fun h => by
        have := AK.out.sr.named_lt h
        omega
      have OM := Lib.hid (Ob.new w3' #[.int .i64 a, .int .u64 1, .slice sa bs.length sc] 39)
      obtain ⟨lm, cm, fm⟩ := OM.out.blk
      have hbb : (bs == bs) = true := by simp
      go_wp2_with fail
      have RM3 := Lib.hid (RM.out.alloc (.cells #[.int .i64 a, .int .u64 1, .slice sa bs.length sc] 39))
      have AK3 := Lib.hid (AK.out.below ((Below.refl w3'.heap.size w3').alloc (Nat.le_refl _) (.cells #[.int .i64 a, .int .u64 1, .slice sa bs.length sc] 39)))
      have hsm : w3'.heap.size < (w3'.alloc (.cells #[.int .i64 a, .int .u64 1, .slice sa bs.length sc] 39)).heap.size := by rw [World.size_alloc]; omega
      clear RM AK OM
      generalize w3'.alloc (.cells #[.int .i64 a, .int .u64 1, .slice sa bs.length sc] 39) = W3 at *
      generalize w3'.heap.size = X3 at *
      refine wp_run (M := (Ev.Named (F1.kill zz) ψ3)) (stages [([true, true, true, true, true, true, true, true, true, true, false, false, false, false, false, false, false, false, false, false, false, false, false], 10), ([false, false, false, false, false, false, false, false, false, false, false, true, true, true, true, true, false, false, false, false, false, false, false], 16), ([false, false, false, false, false, false, false, false, false, false, false, false, false, false, false, false, false, true, true, true, false, false, false], 20)] [false, false, false, false, false, false, false, false, false, false, false, false, false, false, false, false, false, false, false, false, false, true, true]) (by kernel_rfl) (by kernel_rfl) ?_
      refine run_stage rfl ?_
      simp only [pickAt]
      repeat (first
        | (refine quiet_str rfl 33 9 (.tmp 151) rfl Tryz.underlying33 Tryz.underlying5 Tryz.underlying9 (fun w hw => by obtain ⟨k, rfl⟩ := hw; exact Rd.kept (w := W3.drew) RM3.out (later_kept _ _ k) HM.out) rfl ?_; simp only [Act.put, List.setIfInBounds_toArray, List.set_cons_zero, List.set_cons_succ])
        | go_big_quiet_step (fail))
      refine wpQuiet_nil ?_
      refine run_want rfl ?_
      intro A hA
      go_simp
      refine (block300 HE2.out.2.1 HE2.out.2.2.2.1 HE2.out.2.2.2.2.1 _).mono ?_
      rintro e w4' ⟨v4, rfl, hr4, hv4, hb4⟩
      have AK4 := Lib.hid (At.below (AK3.out.ext (Ev.Ext.drew AK3.out.sr)) hb4)
      have R4 := Lib.hid hr4
      have HM4 : Hid (∀ x l c, v4 = .slice (some x) l c → ¬ Ev.Named (F1.kill zz) ψ3 x.block) := Lib.hid fun x l c hv hn => by
        have h1 := hv4 x l c hv
        have h2 := AK3.out.sr.named_lt hn
        have h3 : W3.heap.size ≤ x.block := h1
        omega
      have hdd : Hid (Kept (Ev.Named (F1.kill zz) ψ3) _ w4') := Lib.hid (Kept.of_below hb4)
      obtain ⟨v4a, v4c, rfl, _, _⟩ := R4.out.form
      refine hA _ _ (hdd.out) ?_
      try simp only [Act.put, List.setIfInBounds_toArray, List.set_cons_zero, List.set_cons_succ]
      clear A hA
      clear hr4 hv4 hb4 hdd AK3 RM3 lm cm fm
      refine run_stage rfl ?_
      simp only [pickAt]
      repeat (first
        | (refine quiet_str rfl 33 9 (.tmp 153) rfl Tryz.underlying33 Tryz.underlying5 Tryz.underlying9 (fun w hw => by obtain ⟨k, rfl⟩ := hw; exact R4.out.kept (later_kept _ _ k) HM4.out) rfl ?_; simp only [Act.put, List.setIfInBounds_toArray, List.set_cons_zero, List.set_cons_succ])
        | go_big_quiet_step (fail))
      refine wpQuiet_nil ?_
      refine run_want rfl ?_
      intro A hA
      go_simp
      refine (AK4.out.call HE2.out.2.2.2.2.2 (args := #[.pointer (some ⟨lx.b, lx.s, none⟩), .int .i64 0, .int .u64 1]) (Ev.tvs_cons (Ev.tv_pt (AK4.out.le _ _ HX.out)) rfl)).mono ?_
      rintro e w5' ⟨u5, ψ5, rfl, hu5, hx5, hat5⟩
      cases hu5
      have A5 := Lib.hid hat5
      have hk5 : Hid (Kept (Ev.Named (F1.kill zz) ψ3) w4' w5') := Lib.hid hx5.kept
      refine hA _ _ (hk5.out) ?_
      try simp only [Act.put, List.setIfInBounds_toArray, List.set_cons_zero, List.set_cons_succ]
      clear A hA
      clear hx5 hat5 hk5 AK4 R4 HM4
      refine run_stage rfl ?_
      simp only [pickAt]
      repeat (go_big_quiet_step (fail))
      refine wpQuiet_nil ?_
      refine run_want rfl ?_
      intro A hA
      go_simp
      refine (awake_any _).mono ?_
      rintro e w6' ⟨rfl, hb6⟩
      have B6 := Lib.hid (A5.out.bel.trans (hb6.mono A5.out.size))
      refine hA _ _ ((Kept.of_below hb6)) ?_
      try simp only [Act.put, List.setIfInBounds_toArray, List.set_cons_zero, List.set_cons_succ]
      clear A hA
      clear hb6 A5
      refine run_last ?_
      simp only [pickAt]
      repeat (go_big_quiet_step (fail))
      refine wpQuiet_nil ?_
      go_wp2_with fail
      go_ret
      refine ⟨rfl, ?_⟩
      rw [HBQ.out]
      exact B6.out
end Go.Proofs.YtajhndakkaniaaaGreatDoor
/- TopGarbled returns true, for every input: out of what is evaluated of the three engines. -/
namespace Go.Proofs.YtajhndakkaniaaaGreatDoor
open Go.RowKit

set_option maxRecDepth 100000 in
theorem garb_any (f0 : ∃ m K0 K1 K2, Facts m K0 K1 K2 1 200 430) (f1 : ∃ m K0 K1 K2, Facts m K0 K1 K2 2 2 0) (f2 : ∃ m K0 K1 K2, Facts m K0 K1 K2 3 0 0) (kind : Int) (f : Fr) (v : Value) (cl : List Int) (cv : Value) (rl : List UInt8) (rv : Value) (w : World) (hm : 0 ≤ f.msg) (hd : Rd w 1 v f.data.length (bcells f.data)) (hc : Rd w 1 cv cl.length (cl.map (Value.int .i64))) (hr : Rd w 1 rv rl.length (bcells rl)) :
    Calls Tryz.prog 4 #[.int .i64 kind, f.val v, cv, rv] w (TrueBelow w) := by
  by_cases hl : (f.data.length ≤ 1500 ∧ cl.length ≤ 20) ∧ rl.length ≤ 200
  · have h3 : kind % 3 = 0 ∨ kind % 3 = 1 ∨ kind % 3 = 2 := by omega
    rcases h3 with e | e | e
    · obtain ⟨m, K0, K1, K2, hf⟩ := f0
      exact garb_in hf kind (by rw [e]; rfl) f v cl cv rl rv w hm hd hc hr hl.1.1 hl.1.2 hl.2
    · obtain ⟨m, K0, K1, K2, hf⟩ := f1
      exact garb_in hf kind (by rw [e]; rfl) f v cl cv rl rv w hm hd hc hr hl.1.1 hl.1.2 hl.2
    · obtain ⟨m, K0, K1, K2, hf⟩ := f2
      exact garb_in hf kind (by rw [e]; rfl) f v cl cv rl rv w hm hd hc hr hl.1.1 hl.1.2 hl.2
  · have hc2 : 1500 < f.data.length ∨ (f.data.length ≤ 1500 ∧ 20 < cl.length) ∨ (f.data.length ≤ 1500 ∧ cl.length ≤ 20 ∧ 200 < rl.length) := by omega
    obtain ⟨v, cp, rfl, v1, v2⟩ := hd.form
    obtain ⟨cv, cc, rfl, c1, c2⟩ := hc.form
    obtain ⟨rv, rc, rfl, r1, r2⟩ := hr.form
    have BF := Lib.hid ((Below.refl w.heap.size w).alloc (Nat.le_refl _) (.cells #[.int .i64 f.kind, .int .i64 f.src, .int .i64 f.dst, .int .i64 f.prio, .int .u64 f.msg, .int .i64 f.off, .int .i64 f.len, .int .i64 f.total, .int .i64 f.num, .slice v f.data.length cp] 44))
    clear hd hc hr hl f0 f1 f2 hm
    unfold Fr.val
    rcases hc2 with e1 | ⟨e1, e2⟩ | ⟨e1, e2, e3⟩
    all_goals
      go_enter Tryz.func4, Tryz.ntmps4
      go_wp2_with fail
      refine (awake_any _).mono ?_
      rintro e w3 ⟨rfl, hb3⟩
      go_wp2_with fail
      go_ret
      exact ⟨rfl, BF.out.trans (hb3.mono BF.out.size)⟩
end Go.Proofs.YtajhndakkaniaaaGreatDoor
