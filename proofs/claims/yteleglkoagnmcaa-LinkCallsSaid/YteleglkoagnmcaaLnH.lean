/- What is proved: LinkCalls holds, walked. Conditions: the memory holds the objects. -/
import Derived.Test.YteleglkoagnmcaaGLnA
import Derived.Test.YteleglkoagnmcaaLwK
import Derived.Test.YteleglkoagnmcaaGLlC
import Derived.BigQuiet
set_option linter.unusedSimpArgs false
set_option linter.unusedVariables false
set_option linter.constructorNameAsVariable false
namespace Go.Proofs.Yteleglkoagnmcaa
open Go Go.RowKit
/-- the statements' beginning: what holds behind a link that went well -/
structure LkW (W w : World) (s : Nat) (v : V) (nm : ByteArray) (ib : Nat) (wA : Option Addr) (wc : Nat) (mA : Option Addr) (mc : Nat) (d : List Ob) (i : Img) (l : List (Pl × PA)) : Prop where
  chg : Chg NoB W w
  st : ∃ base F, StoreV base w s v F
  im : ImR w ib wA wc mA mc i l
  ld : loadedO (getV v) nm = .inr d
  lk : imgP haltW d = .inr i
theorem jv_no {m j0 : Nat} (h : m ≠ j0) : Value.int .i64 (if j0 < m then (j0 : Int) else -1) = .int .i64 (if j0 < m + 1 then (j0 : Int) else -1) := by
  congr 1
  by_cases h1 : j0 < m
  · rw [if_pos h1, if_pos (by omega)]
  · rw [if_neg h1, if_neg (by omega)]
theorem num9_q (n : Int) (W : World) : Calls Try.prog 14 #[.int .i64 n] W fun e w' => e = .returned (.int .i64 n) ∧ w' = W := (num9_c n W).mono fun _ _ ⟨h1, h2⟩ => ⟨h1, h2.symm⟩
theorem i64w {n : Int} (h : -9223372036854775808 ≤ n ∧ n ≤ 9223372036854775807) : IntKind.i64.wrap n = n := IntWalk.i64_in _ h
set_option maxRecDepth 100000 in
set_option maxHeartbeats 64000000 in
theorem linkCalls_c {W : World} {L : List (Ob × OA)} {A : Option Addr} {c : Nat} (hA : CellsAt W A (allCells L)) (hO : ∀ x ∈ L, ObIs W x.1 x.2) (hL : L.length ≤ maxLen) {nm : ByteArray} (hn : nm.size ≤ maxLen) : Calls Try.prog 6 #[.slice A L.length c, .string nm] W fun e w' => e = .returned (.bool true) ∧ Chg NoB W w' := by
  have HA := Go.Lib.hid hA
  have HO := Go.Lib.hid hO
  obtain ⟨n0, hln⟩ : ∃ n, L.length = n := ⟨_, rfl⟩
  have HN0 := Go.Lib.hid hln
  obtain ⟨sz, hsz⟩ : ∃ k, nm.size = k := ⟨_, rfl⟩
  have HSZ := Go.Lib.hid hsz
  have HL : Hid (n0 ≤ maxLen) := Go.Lib.hid (by rw [← hln]; exact hL)
  have hs2 : sz ≤ 9223372036854775807 := by rw [hsz] at hn; unfold maxLen at hn; omega
  rw [hln]
  clear hA hO hln hL hn
  go_enter Try.func6, Try.ntmps6
  go_wp2_with fail
  have HC := Go.Lib.hid (Chg.refl NoB W)
  have hmu := muchO_c (c := c) (HA.out.chg HC.out fun _ _ => id) (fun x hx => (HO.out x hx).quiet HC.out) (by rw [HN0.out]; exact HL.out)
  rw [HN0.out] at hmu
  refine hmu.mono ?_
  clear hmu
  rintro e w1 ⟨b, rfl, hc1, hb⟩
  have HC := Go.Lib.hid (HC.out.trans hc1)
  clear hc1
  cases b with
  | true =>
    clear hb
    go_wp2_with fail
    refine (known_c _).mono ?_
    rintro e wk ⟨rfl, hck⟩
    have HC := Go.Lib.hid (HC.out.trans hck)
    clear hck
    go_wp2_with fail
    go_ret
    exact ⟨rfl, HC.out⟩
  | false =>
  have hn8 := hb rfl
  clear hb
  by_cases h2 : 100 < sz
  · have d2 : decide (100 < (sz : Int)) = true := by simp; omega
    clear h2
    go_wp2_with fail
    refine (known_c _).mono ?_
    rintro e wk ⟨rfl, hck⟩
    have HC := Go.Lib.hid (HC.out.trans hck)
    clear hck
    go_wp2_with fail
    go_ret
    exact ⟨rfl, HC.out⟩
  have d2 : decide (100 < (sz : Int)) = false := by simp; omega
  have HS : Hid (nm.size ≤ 100) := Go.Lib.hid (by rw [HSZ.out]; omega)
  clear h2
  have HN8 := Go.Lib.hid hn8
  clear hn8
  go_wp2_with fail
  clear d2 hsz
  have hst := stores_c (c := c) (cb := 0) (HA.out.chg HC.out fun _ _ => id) (fun x hx => (HO.out x hx).quiet HC.out) (by rw [HN0.out]; have := HN8.out; omega) (fs := []) (B := none) (fun h => by simp at h) (by simp)
  rw [HN0.out] at hst
  refine hst.mono ?_
  clear hst
  rintro e w2 ⟨s, r, rfl, hT⟩
  have HC := Go.Lib.hid (HC.out.trans hT.chg)
  obtain ⟨base, F, aa, hsv, _⟩ := hT
  generalize putsF putP (putsO putP v0L (L.map (·.1))) [] = v at *
  have HSV := Go.Lib.hid hsv
  clear hsv HA HO
  go_wp2_with fail
  refine (link_c HSV.out (by have := HS.out; unfold maxLen; omega)).mono ?_
  rintro e w3 ⟨hc3, hp3⟩
  have HC := Go.Lib.hid (HC.out.trans hc3)
  have HSV := Go.Lib.hid (HSV.out.quiet hc3)
  cases hr : linkO (getV v) nm with
  | inl er =>
    rw [hr] at hp3
    obtain rfl := hp3
    have hne := linkO_ne HSV.out.dir_le hr
    have hne2 : (er != 0) = true := by simpa using hne
    clear hr hc3 hne HSV
    go_upto_region 7 with fail
    obtain ⟨w4, hw⟩ : ∃ w, w3.alloc (.cells #[.slice none 0 0, .slice none 0 0] IMT) = w := ⟨_, rfl⟩
    have HC := Go.Lib.hid (HC.out.trans (show Chg NoB w3 w4 by rw [← hw]; exact (Chg.refl NoB _).alloc _))
    rw [hw]
    clear hw
    generalize w3.heap.size = b3 at *
    go_wp2_with fail
    refine (num9_c _ _).mono ?_
    rintro e wz ⟨rfl, hz⟩
    obtain rfl := hz
    go_wp2_with fail
    refine (known_c _).mono ?_
    rintro e wk ⟨rfl, hck⟩
    have HC := Go.Lib.hid (HC.out.trans hck)
    clear hck
    go_wp2_with fail
    go_ret
    exact ⟨rfl, HC.out⟩
  | inr i =>
  rw [hr] at hp3
  obtain ⟨wv, mv, l, hlm, rfl, hr1, hr2, hent⟩ := hp3
  obtain ⟨d, hld, hlk⟩ := linkO_inr hr
  obtain ⟨wA, wc, rfl⟩ := own_slice hr1
  obtain ⟨mA, mc, rfl⟩ := own_slice hr2
  obtain ⟨w4, hw⟩ : ∃ w, w3.alloc (.cells #[.slice wA i.words.length wc, .slice mA l.length mc] IMT) = w := ⟨_, rfl⟩
  have hc4 : Chg NoB w3 w4 := by rw [← hw]; exact (Chg.refl NoB _).alloc _
  have HX : Hid (LkW W w4 s v nm w3.heap.size wA wc mA mc d i l) := Go.Lib.hid ⟨HC.out.trans hc4, ⟨_, _, HSV.out.quiet hc4⟩, ImR.quiet ⟨by rw [← hw]; exact Blk.new _ _ _, (own_cells_ hr1).chg hc4 fun _ _ => id, (own_cells_ hr2).chg hc4 fun _ _ => id, fun x hx => (hent x hx).quiet hc4, hlm⟩ (Chg.refl _ _), hld, hlk⟩
  have HW := Go.Lib.hid hw
  obtain ⟨wl, hwl⟩ : ∃ k, i.words.length = k := ⟨_, rfl⟩
  obtain ⟨ml, hml⟩ : ∃ k, l.length = k := ⟨_, rfl⟩
  have HLN := Go.Lib.hid (And.intro hwl hml)
  rw [hwl, hml]
  clear hr hc3 hlm hr1 hr2 hent hld hlk hw hc4 hwl hml HSV HC
  go_upto_region 7 with fail
  have hw : w3.alloc (.cells #[.slice wA wl wc, .slice mA ml mc] IMT) = w4 := by rw [← HLN.out.1, ← HLN.out.2]; exact HW.out
  rw [hw]
  clear hw HW
  generalize w3.heap.size = ib at *
  have c0 : w4.cell? ⟨ib, 0, none⟩ = some (.slice wA wl wc) := by rw [← HLN.out.1]; exact HX.out.im.box.cell 0
  have c1 : w4.cell? ⟨ib, 1, none⟩ = some (.slice mA ml mc) := by rw [← HLN.out.2]; exact HX.out.im.box.cell 1
  have HC01 := Go.Lib.hid (And.intro c0 c1)
  -- the last module's name, the length
  have hlast : Hid (0 < ml ∧ ml + 2 ≤ wl ∧ wl ≤ 4194304 ∧ ∃ x, l[ml - 1]? = some x ∧ x.1.name = nm) := Go.Lib.hid (by
    obtain ⟨ws, hI⟩ := imgP_inr HX.out.lk
    have h1 := HX.out.im.len
    rw [HLN.out.2, hI.mlen] at h1
    obtain ⟨m, o, rfl, ho⟩ := loaded_last HX.out.ld
    have h2 := hI.len (by rfl) (loaded_laid' HX.out.ld)
    rw [HLN.out.1] at h2
    have h3 := hI.small
    have h4 := dataEnd_ge (m ++ [o]) ((m ++ [o]).length + 2 + cLen (m ++ [o]))
    have h5 : (m ++ [o]).length = m.length + 1 := by simp
    refine ⟨by omega, by omega, by omega, ?_⟩
    obtain ⟨x, hx⟩ : ∃ x, l[ml - 1]? = some x := ⟨_, List.getElem?_eq_getElem (by rw [HLN.out.2]; omega)⟩
    refine ⟨x, hx, ?_⟩
    have h6 := HX.out.im.get hx
    rw [hI.mods, placed_get (o := o) (by rw [h1, h5, List.getElem?_append_right (by omega)]; simp)] at h6
    injection h6 with h6
    rw [← h6]
    exact ho)
  obtain ⟨g, go_, rfl, hmc⟩ := HX.out.im.mod (by rw [HLN.out.2]; exact hlast.out.1)
  obtain ⟨wb, wo, rfl, hwc⟩ := HX.out.im.word (by rw [HLN.out.1]; have := hlast.out; omega)
  have HWC := Go.Lib.hid hwc
  have HMC := Go.Lib.hid hmc
  obtain ⟨k1, k2, k3, _⟩ := hlast.out
  clear hmc hwc HSZ HN0 HN8 HL HS hs2 hlast
  go_wp2_with fail
  refine (num9_c _ _).mono ?_
  rintro e wz ⟨rfl, hz⟩
  obtain rfl := hz
  have K := Go.Lib.hid (And.intro k1 (And.intro k2 k3))
  have hml2 : ml ≤ 4194304 := by omega
  clear k2 k1
  go_wp2_with fail
  clear c0 c1
  go_loopw [9] (fun v9 wr => ∃ k : Nat, k ≤ ml ∧ v9 = .int .i64 k ∧ Chg NoB w4 wr) (fun v9 _ => ml - (intOf v9).toNat)
  case atStart => exact ⟨0, Nat.zero_le _, rfl, Chg.refl _ _⟩
  case round =>
    obtain ⟨k, hk, rfl, hc⟩ := hrel
    have HCR := Go.Lib.hid hc
    have c1 := keepQ hc HC01.out.2
    by_cases hlt : k < ml
    · obtain ⟨⟨p, pa⟩, hx⟩ : ∃ x, l[k]? = some x := ⟨_, List.getElem?_eq_getElem (by rw [HLN.out.2]; exact hlt)⟩
      obtain ⟨ob, hst⟩ : ∃ ob, StandsP (getV v) i k ob p := stands_of HX.out.ld HX.out.lk (HX.out.im.get hx)
      have HST := Go.Lib.hid hst
      have HXK := Go.Lib.hid hx
      obtain ⟨base2, F2, hsv⟩ := HX.out.st
      have HLD := Go.Lib.hid (load_c (hsv.quiet hc) (nm := p.name) (by have := hst.nm; unfold maxLen; omega))
      have d0 := (HMC.out k _ hx wr hc).1
      clear hx hst hsv hc
      go_wp2_with fail
      refine HLD.out.mono ?_
      rintro e w5 ⟨hc5, hp5⟩
      rw [HST.out.file] at hp5
      obtain ⟨a, rfl, hOT⟩ := hp5
      obtain ⟨w6, hw⟩ : ∃ w, w5.alloc (.cells (obArr ob a) OT) = w := ⟨_, rfl⟩
      have hc6 : Chg NoB w5 w6 := by rw [← hw]; exact (Chg.refl NoB _).alloc _
      have HBO : Hid (Blk w6 w5.heap.size OT (obArr ob a)) := Go.Lib.hid (by rw [← hw]; exact Blk.new _ _ _)
      have HOB : Hid (ObIs w6 ob a) := Go.Lib.hid (hOT.is_.quiet hc6)
      have HC6 := Go.Lib.hid (HCR.out.trans (hc5.trans hc6))
      unfold obVal
      unfold obArr at hw
      have HW := Go.Lib.hid hw
      obtain ⟨il, hil⟩ : ∃ n, ob.imps.length = n := ⟨_, rfl⟩
      obtain ⟨fl, hfl⟩ : ∃ n, ob.fixs.length = n := ⟨_, rfl⟩
      have HLO := Go.Lib.hid (And.intro hil hfl)
      unfold obArr
      rw [hil, hfl]
      clear hc5 hOT hw hc6 HLD d0 c1
      go_upto_region 13 with fail
      have hw : w5.alloc (.cells #[.string ob.name, .int .u32 ob.key, .slice a.iA il a.ic, .int .i64 ob.vars, .slice a.tA ob.text.length a.tc, .slice a.cA ob.code.length a.cc, .slice a.eA ob.ents.length a.ec, .slice a.fA fl a.fc] OT) = w6 := by rw [← hil, ← hfl]; exact HW.out
      rw [hw]
      clear hw HW hil hfl
      generalize w5.heap.size = b5 at *
      have o2 : w6.cell? ⟨b5, 2, none⟩ = some (.slice a.iA il a.ic) := by rw [← HLO.out.1]; exact HBO.out.cell 2
      have o7 : w6.cell? ⟨b5, 7, none⟩ = some (.slice a.fA fl a.fc) := by rw [← HLO.out.2]; exact HBO.out.cell 7
      have HO2 := Go.Lib.hid (And.intro o2 o7)
      have hfl2 : fl ≤ 8192 := by rw [← HLO.out.2]; exact HST.out.may.fl
      have hil2 : il ≤ 12 := by
        have h1 := HST.out.may.im
        rw [HLO.out.1.symm]
        simp only [impsOk, Bool.and_eq_true, decide_eq_true_eq] at h1
        exact h1.2
      obtain ⟨pc, hpc⟩ : ∃ z, p.code = z := ⟨_, rfl⟩
      have HPC := Go.Lib.hid hpc
      have hpc2 : pc ≤ 4194304 := by have := HST.out.code; have := K.out; rw [HLN.out.1] at *; omega
      clear hpc o2 o7
      go_wp2_with fail
      refine (num9_c _ _).mono ?_
      rintro e wz ⟨rfl, hz⟩
      obtain rfl := hz
      go_wp2_with fail
      go_loopw [12] (fun v12 wx => ∃ j : Nat, j ≤ fl ∧ v12 = .int .i64 j ∧ Chg NoB w6 wx) (fun v12 _ => fl - (intOf v12).toNat)
      case atStart => exact ⟨0, Nat.zero_le _, rfl, Chg.refl _ _⟩
      case round =>
        obtain ⟨j, hj, rfl, hcx⟩ := hrel
        have HCX := Go.Lib.hid hcx
        have o7 := keepQ hcx HO2.out.2
        clear hcx
        by_cases hjl : j < fl
        · obtain ⟨⟨x, mm, z⟩, hx⟩ : ∃ x, ob.fixs[j]? = some x := ⟨_, List.getElem?_eq_getElem (by rw [HLO.out.2]; exact hjl)⟩
          obtain ⟨fb, fp, hfA, hcell⟩ := HOB.out.fix (by rw [HLO.out.2]; omega)
          obtain ⟨hx0, hx1, hx2⟩ := hcell j _ hx wr HCX.out
          simp only at hx0 hx1 hx2
          rw [hfA] at o7
          have HFC := Go.Lib.hid hcell
          have hfx := HST.out.may.fx j _ hx
          have y1 := hfx.a0
          have y2 := hfx.a1
          have y3 := hfx.e0
          have y4 := hfx.e2
          have y5 := hfx.m2
          have y6 := HST.out.may.cl
          simp only at y1 y2 y3 y4 y5
          have HFX := Go.Lib.hid hx
          have hx16 : x < 16384 := by omega
          have HFA := Go.Lib.hid hfA
          rw [HLO.out.1] at y5
          clear hfA hcell hx hfx y6
          go_upto_region 19 with fail
          obtain ⟨w7, hw⟩ : ∃ w, wr.alloc (.cells #[.int .i64 x, .int .i64 mm, .int .i64 z] FT) = w := ⟨_, rfl⟩
          have hc7 : Chg NoB wr w7 := by rw [← hw]; exact (Chg.refl NoB _).alloc _
          have hb7 : Blk w7 wr.heap.size FT #[.int .i64 x, .int .i64 mm, .int .i64 z] := by rw [← hw]; exact Blk.new _ _ _
          have HB7 := Go.Lib.hid hb7
          have HC7 := Go.Lib.hid (HCX.out.trans hc7)
          rw [hw]
          have o7 := keepQ hc7 o7
          have d0 : w7.cell? ⟨wr.heap.size, 0, none⟩ = some (.int .i64 x) := hb7.cell 0
          clear hw hc7 hb7 hx0 hx1 hx2
          generalize wr.heap.size = b7 at *
          -- is it left out?
          obtain ⟨sk, hsk⟩ : ∃ b : Bool, (decide (∃ g, ob.fixs[j + 1]? = some g ∧ g.1 = x + 1) || decide (0 < j ∧ ∃ g, ob.fixs[j - 1]? = some g ∧ g.1 + 1 = x)) = b := ⟨_, rfl⟩
          obtain ⟨j1, hj1⟩ : ∃ n, j + 1 = n := ⟨_, rfl⟩
          have e1 : IntKind.i64.wrap ((j : Int) + 1) = (j1 : Int) := by rw [i64w (by omega)]; omega
          have HJ1 := Go.Lib.hid hj1
          have e2 : IntKind.i64.wrap (x + 1) = x + 1 := i64w (by omega)
          rw [hj1] at hsk
          have HSK := Go.Lib.hid hsk
          clear hsk hj1
          go_cut [112] from 77 to 113 (fun v112 wx => v112 = .bool sk ∧ Chg NoB w7 wx)
          case first =>
            by_cases hn : j1 < fl
            · have e3 : decide ((j1 : Int) < (fl : Int)) = true := by simp; omega
              obtain ⟨g, hg⟩ : ∃ g, ob.fixs[j1]? = some g := ⟨_, List.getElem?_eq_getElem (by rw [HLO.out.2]; exact hn)⟩
              have g0 := (HFC.out j1 g hg w7 HC7.out).1
              obtain ⟨gx, hgx⟩ : ∃ z, g.1 = z := ⟨_, rfl⟩
              rw [hgx] at g0
              by_cases hgt : gx = x + 1
              · have e4 : (gx == x + 1) = true := by simpa using hgt
                have hs : sk = true := by rw [← HSK.out, Bool.or_eq_true]; exact .inl (decide_eq_true ⟨g, hg, by omega⟩)
                subst hs
                clear hg hgx hgt
                go_quiet (fail)
                go_wp2_with fail
                go_meet
                exact ⟨rfl, (Chg.refl NoB w7).drewN _⟩
              · have e4 : (gx == x + 1) = false := by simpa using hgt
                have HL1 : Hid (decide (∃ g, ob.fixs[j1]? = some g ∧ g.1 = x + 1) = false) := Go.Lib.hid (decide_eq_false fun ⟨g2, h1, h2⟩ => by rw [hg] at h1; injection h1 with h1; subst h1; omega)
                clear hg hgx hgt
                rcases Nat.eq_zero_or_pos j with h0 | h0
                · have e5 : decide (0 < (j : Int)) = false := by simp; omega
                  have e5' : decide (0 < j) = false := by simp; omega
                  have hs : sk = false := by rw [← HSK.out, Bool.or_eq_false_iff]; exact ⟨HL1.out, decide_eq_false fun h => by omega⟩
                  subst hs
                  clear h0
                  go_quiet (fail)
                  go_wp2_with fail
                  go_meet
                  exact ⟨rfl, (Chg.refl NoB w7).drewN _⟩
                · have e5 : decide (0 < (j : Int)) = true := by simp; omega
                  have e5' : decide (0 < j) = true := by simp; omega
                  obtain ⟨jm, hjm⟩ : ∃ n, j - 1 = n := ⟨_, rfl⟩
                  obtain ⟨r, hr⟩ : ∃ r, ob.fixs[jm]? = some r := ⟨_, List.getElem?_eq_getElem (by rw [HLO.out.2]; omega)⟩
                  have r0 := (HFC.out jm r hr w7 HC7.out).1
                  have hrm := HST.out.may.fx jm r hr
                  have hr1 := hrm.a0
                  have hr2 := hrm.a1
                  have hr3 := HST.out.may.cl
                  obtain ⟨rx, hrx⟩ : ∃ z, r.1 = z := ⟨_, rfl⟩
                  rw [hrx] at r0 hr1 hr2
                  have e6 : IntKind.i64.wrap ((j : Int) - 1) = (jm : Int) := by rw [i64w (by omega)]; omega
                  have e7 : IntKind.i64.wrap (rx + 1) = rx + 1 := i64w (by omega)
                  have e8 : jm < fl := by omega
                  by_cases hrt : rx + 1 = x
                  · have e9 : (rx + 1 == x) = true := by simpa using hrt
                    have hs : sk = true := by rw [← HSK.out, Bool.or_eq_true]; exact .inr (decide_eq_true ⟨h0, r, by rw [hjm]; exact hr, by omega⟩)
                    subst hs
                    clear hr hrx hrt hr1 hr2 hr3 hrm hjm
                    go_quiet (fail)
                    go_wp2_with fail
                    go_meet
                    exact ⟨rfl, (Chg.refl NoB w7).drewN _⟩
                  · have e9 : (rx + 1 == x) = false := by simpa using hrt
                    have hs : sk = false := by rw [← HSK.out, Bool.or_eq_false_iff]; exact ⟨HL1.out, decide_eq_false fun ⟨_, g2, h1, h2⟩ => by rw [hjm, hr] at h1; injection h1 with h1; subst h1; omega⟩
                    subst hs
                    clear hr hrx hrt hr1 hr2 hr3 hrm hjm
                    go_quiet (fail)
                    go_wp2_with fail
                    go_meet
                    exact ⟨rfl, (Chg.refl NoB w7).drewN _⟩
            · have e3 : decide ((j1 : Int) < (fl : Int)) = false := by simp; omega
              have HL1 : Hid (decide (∃ g, ob.fixs[j1]? = some g ∧ g.1 = x + 1) = false) := Go.Lib.hid (decide_eq_false fun ⟨g2, h1, h2⟩ => by have := (List.getElem?_eq_some_iff.1 h1).1; rw [HLO.out.2] at this; omega)
              rcases Nat.eq_zero_or_pos j with h0 | h0
              · have e5 : decide (0 < (j : Int)) = false := by simp; omega
                have e5' : decide (0 < j) = false := by simp; omega
                have hs : sk = false := by rw [← HSK.out, Bool.or_eq_false_iff]; exact ⟨HL1.out, decide_eq_false fun h => by omega⟩
                subst hs
                clear h0
                go_quiet (fail)
                go_wp2_with fail
                go_meet
                exact ⟨rfl, (Chg.refl NoB w7).drewN _⟩
              · have e5 : decide (0 < (j : Int)) = true := by simp; omega
                have e5' : decide (0 < j) = true := by simp; omega
                obtain ⟨jm, hjm⟩ : ∃ n, j - 1 = n := ⟨_, rfl⟩
                obtain ⟨r, hr⟩ : ∃ r, ob.fixs[jm]? = some r := ⟨_, List.getElem?_eq_getElem (by rw [HLO.out.2]; omega)⟩
                have r0 := (HFC.out jm r hr w7 HC7.out).1
                have hrm := HST.out.may.fx jm r hr
                have hr1 := hrm.a0
                have hr2 := hrm.a1
                have hr3 := HST.out.may.cl
                obtain ⟨rx, hrx⟩ : ∃ z, r.1 = z := ⟨_, rfl⟩
                rw [hrx] at r0 hr1 hr2
                have e6 : IntKind.i64.wrap ((j : Int) - 1) = (jm : Int) := by rw [i64w (by omega)]; omega
                have e7 : IntKind.i64.wrap (rx + 1) = rx + 1 := i64w (by omega)
                have e8 : jm < fl := by omega
                by_cases hrt : rx + 1 = x
                · have e9 : (rx + 1 == x) = true := by simpa using hrt
                  have hs : sk = true := by rw [← HSK.out, Bool.or_eq_true]; exact .inr (decide_eq_true ⟨h0, r, by rw [hjm]; exact hr, by omega⟩)
                  subst hs
                  clear hr hrx hrt hr1 hr2 hr3 hrm hjm
                  go_quiet (fail)
                  go_wp2_with fail
                  go_meet
                  exact ⟨rfl, (Chg.refl NoB w7).drewN _⟩
                · have e9 : (rx + 1 == x) = false := by simpa using hrt
                  have hs : sk = false := by rw [← HSK.out, Bool.or_eq_false_iff]; exact ⟨HL1.out, decide_eq_false fun ⟨_, g2, h1, h2⟩ => by rw [hjm, hr] at h1; injection h1 with h1; subst h1; omega⟩
                  subst hs
                  clear hr hrx hrt hr1 hr2 hr3 hrm hjm
                  go_quiet (fail)
                  go_wp2_with fail
                  go_meet
                  exact ⟨rfl, (Chg.refl NoB w7).drewN _⟩
          case rest =>
            obtain ⟨rfl, hcw⟩ := hcut
            obtain ⟨w8, rfl⟩ : ∃ w, w = wc := ⟨wc, rfl⟩
            have HC8 := Go.Lib.hid (HC7.out.trans hcw)
            have HB8 := Go.Lib.hid (HB7.out.chg hcw id)
            clear hcw o7 d0 e1 HB7
            cases sk with
            | true =>
              go_wp2_with fail
              go_roundw
              case rel => exact ⟨j + 1, by omega, by go_num, HC8.out⟩
              case measure => simp [intOf]; omega
            | false =>
              have hsk := HSK.out
              rw [Bool.or_eq_false_iff] at hsk
              obtain ⟨t0, q, hLP⟩ := leads_of HX.out.ld HX.out.lk HST.out HFX.out (fun g hg he => of_decide_eq_false hsk.1 ⟨g, by rw [← HJ1.out]; exact hg, he⟩)
              have HLP := Go.Lib.hid hLP
              clear hsk hLP HSK
              obtain ⟨p0, p1, p2, p3, p4⟩ := HMC.out k _ HXK.out w8 (HC6.out.trans HC8.out)
              simp only at p0 p1 p2 p3 p4
              have c1 := keepQ (HC6.out.trans HC8.out) HC01.out.2
              go_upto_region 21 with fail
              obtain ⟨w9, hw⟩ : ∃ w, w8.alloc (.cells (plArr p pa) PLT) = w := ⟨_, rfl⟩
              have hc9 : Chg NoB w8 w9 := by rw [← hw]; exact (Chg.refl NoB _).alloc _
              have HB9 : Hid (Blk w9 w8.heap.size PLT (plArr p pa)) := Go.Lib.hid (by rw [← hw]; exact Blk.new _ _ _)
              have HC9 := Go.Lib.hid (HC8.out.trans hc9)
              have HB8 := Go.Lib.hid (HB8.out.chg hc9 id)
              have hs9 : Hid (w6.heap.size ≤ w8.heap.size) := Go.Lib.hid HC8.out.size
              have hlt78 : Hid (b7 < w8.heap.size) := Go.Lib.hid (by
                have := HB8.out.lt
                have h2 := hc9.size
                have h3 : w9.heap.size = w8.heap.size + 1 := by rw [← hw]; simp
                rcases Nat.lt_or_ge b7 w8.heap.size with h | h
                · exact h
                · obtain rfl : b7 = w8.heap.size := by omega
                  have e1 := HB8.out.cell 0
                  have e2 := HB9.out.cell 0
                  rw [e2] at e1
                  simp [plArr] at e1)
              unfold plArr at hw
              rw [hw]
              clear hw hc9 p0 p1 p2 p3 p4 c1
              generalize w8.heap.size = b9 at *
              go_wp2_with fail
              go_loopw [15] (fun v15 wy => ∃ m : Nat, m ≤ ml ∧ v15 = .int .i64 m ∧ Chg (fun i => i = b9) w9 wy ∧ (m = 0 ∨ 0 < mm) ∧ ∃ y, l[if 0 < mm ∧ t0 < m then t0 else k]? = some y ∧ Blk wy b9 PLT (plArr y.1 y.2)) (fun v15 _ => ml - (intOf v15).toNat)
              case atStart => exact ⟨0, Nat.zero_le _, rfl, Chg.refl _ _, .inl rfl, (p, pa), by rw [if_neg (by omega)]; exact HXK.out, HB9.out⟩
              case round =>
                obtain ⟨m, hm, rfl, hcy, hm0, y, hy, hby⟩ := hrel
                have HCY : Hid (Chg NoB w6 wr) := Go.Lib.hid (HC9.out.step hcy fun i hi e => by have := hs9.out; omega)
                have HB7 := Go.Lib.hid (HB8.out.chg hcy (fun e => by have := hlt78.out; omega))
                have HCC := Go.Lib.hid hcy
                have HBY := Go.Lib.hid hby
                have HY := Go.Lib.hid hy
                have f0 : wr.cell? ⟨b7, 0, none⟩ = some (.int .i64 x) := HB7.out.cell 0
                have f1 : wr.cell? ⟨b7, 1, none⟩ = some (.int .i64 mm) := HB7.out.cell 1
                have f2 : wr.cell? ⟨b7, 2, none⟩ = some (.int .i64 z) := HB7.out.cell 2
                have c1 := keepQ (HC6.out.trans HCY.out) HC01.out.2
                clear hcy hby hy
                by_cases hgo : 0 < mm ∧ m < ml
                · obtain ⟨hmm, hml⟩ := hgo
                  have e1 : decide (0 < mm) = true := decide_eq_true hmm
                  obtain ⟨ix, hix, hqn, huq⟩ := HLP.out.imp hmm
                  obtain ⟨ibk, io, hiA, hic⟩ := HOB.out.imp (by rw [HLO.out.1]; omega)
                  simp only at hix
                  obtain ⟨mi, hmi⟩ : ∃ n, mm.toNat - 1 = n := ⟨_, rfl⟩
                  rw [hmi] at hix
                  have i0 := (hic mi ix hix wr HCY.out).1
                  have o2 := keepQ HCY.out HO2.out.1
                  rw [hiA] at o2
                  have e3 : IntKind.i64.wrap (mm - 1) = (mi : Int) := by rw [i64w (by omega)]; omega
                  have e4 : mi < il := by omega
                  obtain ⟨r, hr⟩ : ∃ r, l[m]? = some r := ⟨_, List.getElem?_eq_getElem (by rw [HLN.out.2]; exact hml)⟩
                  obtain ⟨r0, r1, r2, r3, r4⟩ := HMC.out m r hr wr (HC6.out.trans HCY.out)
                  have HR := Go.Lib.hid (And.intro hr (HX.out.im.get hr))
                  have HUQ := Go.Lib.hid (And.intro huq hqn)
                  obtain ⟨xn, hxn⟩ : ∃ z, ix.1 = z := ⟨_, rfl⟩
                  obtain ⟨rn, hrn⟩ : ∃ z, r.1.name = z := ⟨_, rfl⟩
                  have HNN := Go.Lib.hid (And.intro hxn hrn)
                  rw [hxn] at i0
                  have HR0 := Go.Lib.hid r0
                  rw [hrn] at r0
                  clear hix hic hiA hr huq hqn hxn hrn hmi
                  by_cases heq : rn = xn
                  · have hd : (rn.toList == xn.toList) = true := by rw [heq]; simp
                    have hmt : m = t0 := HUQ.out.1 m r.1 HR.out.2 (by rw [HNN.out.1, HNN.out.2]; exact heq)
                    have HMT := Go.Lib.hid hmt
                    clear hmt
                    go_wp2_with fail
                    go_quiet (fail)
                    obtain ⟨wq, hwq⟩ : ∃ w, wr.drewN nq = w := ⟨_, rfl⟩
                    have hcq : Chg NoB wr wq := by rw [← hwq]; exact (Chg.refl NoB wr).drewN _
                    rw [hwq]
                    have c1 := keepQ hcq c1
                    have r0 := keepQ hcq HR0.out
                    have r1 := keepQ hcq r1
                    have r2 := keepQ hcq r2
                    have r3 := keepQ hcq r3
                    have r4 := keepQ hcq r4
                    have HBQ := Go.Lib.hid (HBY.out.chg hcq id)
                    have HCQ := Go.Lib.hid hcq
                    clear hwq hcq f0 f1 f2 i0 o2 e3 heq hd
                    go_wp2_with (refine wpList_store_row rfl PLT (.tmp 14) (.tmp 149) rfl b9 (plArr r.1 r.2) rfl rfl PLT (plArr y.1 y.2) HBQ.out (by kernel_rfl) (by rfl) (by kernel_rfl) ?_)
                    go_roundw
                    case rel =>
                      refine ⟨m + 1, by omega, by go_num, (HCC.out.trans (HCQ.out.mono fun _ _ h => h.elim)).rowSet (fun _ => rfl) _, .inr hmm, r, ?_, HBQ.out.rowSet _⟩
                      rw [if_pos ⟨hmm, by have := HMT.out; omega⟩, ← HMT.out]
                      exact HR.out.1
                    case measure => simp [intOf]; omega
                  · have hd : (rn.toList == xn.toList) = false := by rw [eq_bytes]; exact decide_eq_false heq
                    have hmt : m ≠ t0 := fun e => by
                      subst e
                      have h1 := HLP.out.dst
                      rw [HR.out.2] at h1
                      injection h1 with h1
                      apply heq
                      rw [← HNN.out.1, ← HNN.out.2, ← HUQ.out.2, h1]
                    have HMT := Go.Lib.hid hmt
                    clear hmt heq
                    go_wp2_with fail
                    go_quiet (fail)
                    go_wp2_with fail
                    go_roundw
                    case rel =>
                      refine ⟨m + 1, by omega, by go_num, (HCC.out.trans ((Chg.refl NoB wr).drewN _ |>.mono fun _ _ h => h.elim)), .inr hmm, y, ?_, HBY.out.chg ((Chg.refl NoB wr).drewN _) id⟩
                      have h1 := HY.out
                      have h2 := HMT.out
                      by_cases h : t0 < m
                      · rw [if_pos ⟨hmm, by omega⟩]
                        rw [if_pos ⟨hmm, h⟩] at h1
                        exact h1
                      · rw [if_neg (by omega)]
                        rw [if_neg (by omega)] at h1
                        exact h1
                    case measure => simp [intOf]; omega
                · -- behind the search
                  have hyt : Hid (i.mods[t0]? = some y.1 ∧ y ∈ l) := Go.Lib.hid (by
                    have h1 := HY.out
                    refine ⟨?_, List.mem_of_getElem? h1⟩
                    by_cases hmm : 0 < mm
                    · obtain rfl : m = ml := by omega
                      have hlt2 : t0 < m := by
                        have := (List.getElem?_eq_some_iff.1 HLP.out.dst).1
                        rw [← HX.out.im.len, HLN.out.2] at this
                        exact this
                      rw [if_pos ⟨hmm, hlt2⟩] at h1
                      exact HX.out.im.get h1
                    · rw [if_neg (by omega)] at h1
                      have := HLP.out.own hmm
                      rw [this]
                      exact HX.out.im.get h1)
                  have hyq : y.1 = q := by
                    have h1 := HLP.out.dst
                    rw [hyt.out.1] at h1
                    injection h1
                  have b3 : wr.cell? ⟨b9, 3, none⟩ = some (.int .i64 q.data) := by rw [← hyq]; exact HBY.out.cell 3
                  have b4 : wr.cell? ⟨b9, 4, none⟩ = some (.slice y.2.1 q.ents.length y.2.2) := by rw [← hyq]; exact HBY.out.cell 4
                  have HYQ := Go.Lib.hid hyq
                  have c0 := keepQ (HC6.out.trans HCY.out) HC01.out.1
                  have p2 := (HMC.out k _ HXK.out wr (HC6.out.trans HCY.out)).2.2.1
                  simp only at p2
                  rw [HPC.out] at p2
                  obtain ⟨xx, hxx⟩ : ∃ n : Nat, x = n := ⟨x.toNat, by omega⟩
                  subst hxx
                  have e6 : IntKind.i64.wrap ((pc : Int) + (xx : Int)) = ((pc + xx : Nat) : Int) := by rw [i64w (by omega)]; omega
                  have K3 := K.out
                  have hgo2 : mm ≤ 0 ∨ m = ml := by omega
                  have HGO := Go.Lib.hid hgo2
                  have hat : pc + xx < 4194304 + 16384 := by omega
                  obtain ⟨at_, hatd⟩ : ∃ n, pc + xx = n := ⟨_, rfl⟩
                  have HAT := Go.Lib.hid hatd
                  rw [hatd] at e6 hat
                  clear hyq hatd hgo hgo2
                  by_cases hz : z = 0
                  · have ez : (z == 0) = true := by simpa using hz
                    obtain ⟨wa, wb2, h1, h2, h3, h4⟩ := HLP.out.pair hz
                    simp only [Int.toNat_natCast] at h1 h2
                    rw [HPC.out, HAT.out] at h1 h2
                    have g1 := HWC.out _ _ h1 wr (HC6.out.trans HCY.out)
                    have g2 := HWC.out _ _ h2 wr (HC6.out.trans HCY.out)
                    have l1 : at_ < wl := by rw [← HLN.out.1]; exact (List.getElem?_eq_some_iff.1 h1).1
                    have l2 : at_ + 1 < wl := by rw [← HLN.out.1]; exact (List.getElem?_eq_some_iff.1 h2).1
                    obtain ⟨ra, hra⟩ : ∃ n, wa % 65536 = n := ⟨_, rfl⟩
                    obtain ⟨rb, hrb⟩ : ∃ n, wb2 % 65536 = n := ⟨_, rfl⟩
                    have s1 : Int.tmod (wa : Int) 65536 = (ra : Int) := by rw [Int.tmod_eq_emod_of_nonneg (by omega)]; omega
                    have s2 : Int.tmod (wb2 : Int) 65536 = (rb : Int) := by rw [Int.tmod_eq_emod_of_nonneg (by omega)]; omega
                    have hra2 : ra < 65536 := by omega
                    have hrb2 : rb < 65536 := by omega
                    rw [hra, hrb] at h3
                    obtain ⟨qd, hqd⟩ : ∃ n, q.data = n := ⟨_, rfl⟩
                    rw [hqd] at b3 h3
                    have u1 : IntKind.u32.wrap (ra : Int) = (ra : Int) := Int.emod_eq_of_lt (b := 4294967296) (by omega) (by omega)
                    have u2 : IntKind.u32.wrap (rb : Int) = (rb : Int) := Int.emod_eq_of_lt (b := 4294967296) (by omega) (by omega)
                    have u3 : IntKind.i64.wrap (ra : Int) = (ra : Int) := i64w (by omega)
                    have u4 : IntKind.i64.wrap (rb : Int) = (rb : Int) := i64w (by omega)
                    have u5 : IntKind.i64.wrap ((ra : Int) * 65536) = (ra : Int) * 65536 := i64w (by omega)
                    have u6 : IntKind.i64.wrap ((ra : Int) * 65536 + (rb : Int)) = (qd : Int) := by rw [i64w (by omega)]; omega
                    have u7 : IntKind.i64.wrap ((at_ : Int) + 1) = ((at_ + 1 : Nat) : Int) := by rw [i64w (by omega)]; omega
                    clear h1 h2 h3 h4 hra hrb hqd hra2 hrb2 b4 hz K3 hat
                    rcases HGO.out with hmm | hmm
                    · have e1 : decide (0 < mm) = false := decide_eq_false (by omega)
                      go_wp2_with fail
                      go_quiet (fail)
                      go_wp2_with fail
                      go_quiet (fail)
                      go_wp2_with fail
                      go_roundw
                      case rel => exact ⟨j + 1, by omega, by go_num, HCY.out.drewN _⟩
                      case measure => simp [intOf]; omega
                    · subst hmm
                      have e1 : decide (0 < mm) = true := decide_eq_true (by rcases hm0 with h | h <;> omega)
                      go_wp2_with fail
                      go_quiet (fail)
                      go_wp2_with fail
                      go_quiet (fail)
                      go_wp2_with fail
                      go_roundw
                      case rel => exact ⟨j + 1, by omega, by go_num, HCY.out.drewN _⟩
                      case measure => simp [intOf]; omega
                  · have ez : (z == 0) = false := by simpa using hz
                    obtain ⟨zz, hzz⟩ : ∃ n : Nat, z = n := ⟨z.toNat, by omega⟩
                    subst hzz
                    obtain ⟨wa, ev, h1, h2, h3⟩ := HLP.out.call hz
                    simp only [Int.toNat_natCast] at h1 h2 h3
                    rw [HPC.out, HAT.out] at h1 h3
                    have g1 := HWC.out _ _ h1 wr (HC6.out.trans HCY.out)
                    have l1 : at_ < wl := by rw [← HLN.out.1]; exact (List.getElem?_eq_some_iff.1 h1).1
                    have l2 : zz < q.ents.length := (List.getElem?_eq_some_iff.1 h2).1
                    have hent := HX.out.im.ent _ hyt.out.2
                    rw [HYQ.out] at hent
                    obtain ⟨eb, eo, hea, hec⟩ := hent.row.flat (by simpa [entCells] using (by omega : 0 < q.ents.length))
                    have ec := keepQ (HC6.out.trans HCY.out) (hec zz (.int .i64 ev) (by rw [entCells, List.getElem?_map, h2]; rfl))
                    rw [hea] at b4
                    have l3 : q.ents.length ≤ 4294967296 := by
                      obtain ⟨o5, h5⟩ := stands_of HX.out.ld HX.out.lk HLP.out.dst
                      have := h5.ents
                      have := h5.may.e2
                      omega
                    obtain ⟨ql, hql⟩ : ∃ n, q.ents.length = n := ⟨_, rfl⟩
                    rw [hql] at b4 l2 l3
                    obtain ⟨ra, hra⟩ : ∃ n, wa % 16777216 = n := ⟨_, rfl⟩
                    rw [hra] at h3
                    have hra2 : ra < 16777216 := by omega
                    have s1 : Int.tmod (wa : Int) 16777216 = (ra : Int) := by rw [Int.tmod_eq_emod_of_nonneg (by omega)]; omega
                    have u1 : IntKind.u32.wrap (ra : Int) = (ra : Int) := Int.emod_eq_of_lt (b := 4294967296) (by omega) (by omega)
                    have u3 : IntKind.i64.wrap (ra : Int) = (ra : Int) := i64w (by omega)
                    have u4 : IntKind.i64.wrap ((ra : Int) - 16777216) = (ra : Int) - 16777216 := i64w (by omega)
                    have u5 : IntKind.i64.wrap ((at_ : Int) + 1) = (at_ : Int) + 1 := i64w (by omega)
                    have HEV := Go.Lib.hid h3
                    clear h1 h2 h3 hra hent hea hec hql b3 hz K3 hat
                    by_cases hbig : 8388608 ≤ ra
                    · have v1 : decide (8388608 ≤ (ra : Int)) = true := by simp; omega
                      have v2 : IntKind.i64.wrap ((at_ : Int) + 1 + ((ra : Int) - 16777216)) = ev := by have := HEV.out; rw [if_pos hbig] at this; rw [i64w (by omega)]; omega
                      rcases HGO.out with hmm | hmm
                      · have e1 : decide (0 < mm) = false := decide_eq_false (by omega)
                        go_wp2_with fail
                        go_quiet (fail)
                        go_wp2_with fail
                        go_roundw
                        case rel => exact ⟨j + 1, by omega, by go_num, HCY.out.drewN _⟩
                        case measure => simp [intOf]; omega
                      · subst hmm
                        have e1 : decide (0 < mm) = true := decide_eq_true (by rcases hm0 with h | h <;> omega)
                        go_wp2_with fail
                        go_quiet (fail)
                        go_wp2_with fail
                        go_roundw
                        case rel => exact ⟨j + 1, by omega, by go_num, HCY.out.drewN _⟩
                        case measure => simp [intOf]; omega
                    · have v1 : decide (8388608 ≤ (ra : Int)) = false := by simp; omega
                      have v2 : IntKind.i64.wrap ((at_ : Int) + 1 + (ra : Int)) = ev := by have := HEV.out; rw [if_neg hbig] at this; rw [i64w (by omega)]; omega
                      rcases HGO.out with hmm | hmm
                      · have e1 : decide (0 < mm) = false := decide_eq_false (by omega)
                        go_wp2_with fail
                        go_quiet (fail)
                        go_wp2_with fail
                        go_roundw
                        case rel => exact ⟨j + 1, by omega, by go_num, HCY.out.drewN _⟩
                        case measure => simp [intOf]; omega
                      · subst hmm
                        have e1 : decide (0 < mm) = true := decide_eq_true (by rcases hm0 with h | h <;> omega)
                        go_wp2_with fail
                        go_quiet (fail)
                        go_wp2_with fail
                        go_roundw
                        case rel => exact ⟨j + 1, by omega, by go_num, HCY.out.drewN _⟩
                        case measure => simp [intOf]; omega
        · obtain rfl : j = fl := by omega
          go_wp2_with fail
          go_roundw
          case rel => exact ⟨k + 1, by omega, by go_num, HC6.out.trans HCX.out⟩
          case measure => simp [intOf]; omega
    · obtain rfl : k = ml := by omega
      go_wp2_with fail
      refine (known_c _).mono ?_
      rintro e wk ⟨rfl, hck⟩
      have HCK := Go.Lib.hid ((HX.out.chg.trans HCR.out).trans hck)
      clear hck
      go_wp2_with fail
      go_ret
      exact ⟨rfl, HCK.out⟩
theorem linkCalls_walk {W : World} (A : Option Addr) (L : List (Ob × OA)) (c : Nat) (hA : CellsAt W A (L.flatMap fun x => (obArr x.1 x.2).toList)) (hO : ∀ x ∈ L, ObIs W x.1 x.2) (hL : L.length ≤ maxLen) (nm : ByteArray) (hn : nm.size ≤ maxLen) : Calls Try.prog 6 #[.slice A L.length c, .string nm] W fun e w' => e = .returned (.bool true) ∧ Chg NoB W w' :=
  linkCalls_c hA hO hL hn
end Go.Proofs.Yteleglkoagnmcaa
