/- What is proved: LinkMeans holds, walked. Conditions: the memory holds the objects. -/
import Derived.Test.YteleglkoagnmcaaGLnA
import Derived.Test.YteleglkoagnmcaaGLlC
import Derived.BigQuiet
set_option linter.unusedSimpArgs false
set_option linter.unusedVariables false
set_option linter.constructorNameAsVariable false
namespace Go.Proofs.Yteleglkoagnmcaa
open Go Go.RowKit
/-- the statements' beginning: what holds behind a link that went well -/
structure LkW (W w : World) (s : Nat) (v : V) (nm : ByteArray) (ib : Nat) (wA : Option Addr) (wc : Nat) (mA : Option Addr) (mc : Nat) (d : List Ob) (i : Img) (l : List (Pl × PA)) : Prop where
  chg : Chg NoB W w
  st : ∃ base F, StoreV base w s v F
  im : ImR w ib wA wc mA mc i l
  ld : loadedO (getV v) nm = .inr d
  lk : imgP haltW d = .inr i
theorem jv_no {m j0 : Nat} (h : m ≠ j0) : Value.int .i64 (if j0 < m then (j0 : Int) else -1) = .int .i64 (if j0 < m + 1 then (j0 : Int) else -1) := by
  congr 1
  by_cases h1 : j0 < m
  · rw [if_pos h1, if_pos (by omega)]
  · rw [if_neg h1, if_neg (by omega)]
theorem num9_q (n : Int) (W : World) : Calls Try.prog 14 #[.int .i64 n] W fun e w' => e = .returned (.int .i64 n) ∧ w' = W := (num9_c n W).mono fun _ _ ⟨h1, h2⟩ => ⟨h1, h2.symm⟩
theorem i64w {n : Int} (h : -9223372036854775808 ≤ n ∧ n ≤ 9223372036854775807) : IntKind.i64.wrap n = n := IntWalk.i64_in _ h
set_option maxRecDepth 100000 in
set_option maxHeartbeats 64000000 in
theorem linkMeans_c {W : World} {L : List (Ob × OA)} {A : Option Addr} {c : Nat} (hA : CellsAt W A (allCells L)) (hO : ∀ x ∈ L, ObIs W x.1 x.2) (hL : L.length ≤ maxLen) {nm : ByteArray} (hn : nm.size ≤ maxLen) : Calls Try.prog 4 #[.slice A L.length c, .string nm] W fun e w' => e = .returned (.bool true) ∧ Chg NoB W w' := by
  have HA := Go.Lib.hid hA
  have HO := Go.Lib.hid hO
  obtain ⟨n0, hln⟩ : ∃ n, L.length = n := ⟨_, rfl⟩
  have HN0 := Go.Lib.hid hln
  obtain ⟨sz, hsz⟩ : ∃ k, nm.size = k := ⟨_, rfl⟩
  have HSZ := Go.Lib.hid hsz
  have HL : Hid (n0 ≤ maxLen) := Go.Lib.hid (by rw [← hln]; exact hL)
  have hs2 : sz ≤ 9223372036854775807 := by rw [hsz] at hn; unfold maxLen at hn; omega
  rw [hln]
  clear hA hO hln hL hn
  have HK := Go.Lib.hid (known_c W)
  go_enter Try.func4, Try.ntmps4
  go_wp2_with fail
  refine HK.out.mono ?_
  rintro e w0 ⟨rfl, hc0⟩
  have HC := Go.Lib.hid hc0
  clear hc0 HK
  go_wp2_with fail
  have hmu := muchO_c (c := c) (HA.out.chg HC.out fun _ _ => id) (fun x hx => (HO.out x hx).quiet HC.out) (by rw [HN0.out]; exact HL.out)
  rw [HN0.out] at hmu
  refine hmu.mono ?_
  clear hmu
  rintro e w1 ⟨b, rfl, hc1, hb⟩
  have HC := Go.Lib.hid (HC.out.trans hc1)
  clear hc1
  cases b with
  | true =>
    clear hb
    go_wp2_with fail
    go_ret
    exact ⟨rfl, HC.out⟩
  | false =>
  have hn8 := hb rfl
  clear hb
  by_cases h2 : 100 < sz
  · have d2 : decide (100 < (sz : Int)) = true := by simp; omega
    clear h2
    go_wp2_with fail
    go_ret
    exact ⟨rfl, HC.out⟩
  have d2 : decide (100 < (sz : Int)) = false := by simp; omega
  have HS : Hid (nm.size ≤ 100) := Go.Lib.hid (by rw [HSZ.out]; omega)
  clear h2
  have HN8 := Go.Lib.hid hn8
  clear hn8
  go_wp2_with fail
  clear d2 hsz
  have hst := stores_c (c := c) (cb := 0) (HA.out.chg HC.out fun _ _ => id) (fun x hx => (HO.out x hx).quiet HC.out) (by rw [HN0.out]; have := HN8.out; omega) (fs := []) (B := none) (fun h => by simp at h) (by simp)
  rw [HN0.out] at hst
  refine hst.mono ?_
  clear hst
  rintro e w2 ⟨s, r, rfl, hT⟩
  have HC := Go.Lib.hid (HC.out.trans hT.chg)
  obtain ⟨base, F, aa, hsv, _⟩ := hT
  generalize putsF putP (putsO putP v0L (L.map (·.1))) [] = v at *
  have HSV := Go.Lib.hid hsv
  clear hsv HA HO
  go_wp2_with fail
  refine (link_c HSV.out (by have := HS.out; unfold maxLen; omega)).mono ?_
  rintro e w3 ⟨hc3, hp3⟩
  have HC := Go.Lib.hid (HC.out.trans hc3)
  have HSV := Go.Lib.hid (HSV.out.quiet hc3)
  cases hr : linkO (getV v) nm with
  | inl er =>
    rw [hr] at hp3
    obtain rfl := hp3
    have hne := linkO_ne HSV.out.dir_le hr
    have hne2 : (er != 0) = true := by simpa using hne
    clear hr hc3 hne HSV
    go_upto_region 9 with fail
    obtain ⟨w4, hw⟩ : ∃ w, w3.alloc (.cells #[.slice none 0 0, .slice none 0 0] IMT) = w := ⟨_, rfl⟩
    have HC := Go.Lib.hid (HC.out.trans (show Chg NoB w3 w4 by rw [← hw]; exact (Chg.refl NoB _).alloc _))
    rw [hw]
    clear hw
    generalize w3.heap.size = b3 at *
    go_wp2_with fail
    refine (num9_c _ _).mono ?_
    rintro e wz ⟨rfl, hz⟩
    obtain rfl := hz
    go_wp2_with fail
    go_ret
    exact ⟨rfl, HC.out⟩
  | inr i =>
  rw [hr] at hp3
  obtain ⟨wv, mv, l, hlm, rfl, hr1, hr2, hent⟩ := hp3
  obtain ⟨d, hld, hlk⟩ := linkO_inr hr
  obtain ⟨wA, wc, rfl⟩ := own_slice hr1
  obtain ⟨mA, mc, rfl⟩ := own_slice hr2
  obtain ⟨w4, hw⟩ : ∃ w, w3.alloc (.cells #[.slice wA i.words.length wc, .slice mA l.length mc] IMT) = w := ⟨_, rfl⟩
  have hc4 : Chg NoB w3 w4 := by rw [← hw]; exact (Chg.refl NoB _).alloc _
  have HX : Hid (LkW W w4 s v nm w3.heap.size wA wc mA mc d i l) := Go.Lib.hid ⟨HC.out.trans hc4, ⟨_, _, HSV.out.quiet hc4⟩, ImR.quiet ⟨by rw [← hw]; exact Blk.new _ _ _, (own_cells_ hr1).chg hc4 fun _ _ => id, (own_cells_ hr2).chg hc4 fun _ _ => id, fun x hx => (hent x hx).quiet hc4, hlm⟩ (Chg.refl _ _), hld, hlk⟩
  have HW := Go.Lib.hid hw
  obtain ⟨wl, hwl⟩ : ∃ k, i.words.length = k := ⟨_, rfl⟩
  obtain ⟨ml, hml⟩ : ∃ k, l.length = k := ⟨_, rfl⟩
  have HLN := Go.Lib.hid (And.intro hwl hml)
  rw [hwl, hml]
  clear hr hc3 hlm hr1 hr2 hent hld hlk hw hc4 hwl hml HSV HC
  go_upto_region 9 with fail
  have hw : w3.alloc (.cells #[.slice wA wl wc, .slice mA ml mc] IMT) = w4 := by rw [← HLN.out.1, ← HLN.out.2]; exact HW.out
  rw [hw]
  clear hw HW
  generalize w3.heap.size = ib at *
  have c0 : w4.cell? ⟨ib, 0, none⟩ = some (.slice wA wl wc) := by rw [← HLN.out.1]; exact HX.out.im.box.cell 0
  have c1 : w4.cell? ⟨ib, 1, none⟩ = some (.slice mA ml mc) := by rw [← HLN.out.2]; exact HX.out.im.box.cell 1
  have HC01 := Go.Lib.hid (And.intro c0 c1)
  -- the last module's name, the length
  have hlast : Hid (0 < ml ∧ ml + 2 ≤ wl ∧ wl ≤ 4194304 ∧ ∃ x, l[ml - 1]? = some x ∧ x.1.name = nm) := Go.Lib.hid (by
    obtain ⟨ws, hI⟩ := imgP_inr HX.out.lk
    have h1 := HX.out.im.len
    rw [HLN.out.2, hI.mlen] at h1
    obtain ⟨m, o, rfl, ho⟩ := loaded_last HX.out.ld
    have h2 := hI.len (by rfl) (loaded_laid' HX.out.ld)
    rw [HLN.out.1] at h2
    have h3 := hI.small
    have h4 := dataEnd_ge (m ++ [o]) ((m ++ [o]).length + 2 + cLen (m ++ [o]))
    have h5 : (m ++ [o]).length = m.length + 1 := by simp
    refine ⟨by omega, by omega, by omega, ?_⟩
    obtain ⟨x, hx⟩ : ∃ x, l[ml - 1]? = some x := ⟨_, List.getElem?_eq_getElem (by rw [HLN.out.2]; omega)⟩
    refine ⟨x, hx, ?_⟩
    have h6 := HX.out.im.get hx
    rw [hI.mods, placed_get (o := o) (by rw [h1, h5, List.getElem?_append_right (by omega)]; simp)] at h6
    injection h6 with h6
    rw [← h6]
    exact ho)
  obtain ⟨g, go_, rfl, hmc⟩ := HX.out.im.mod (by rw [HLN.out.2]; exact hlast.out.1)
  obtain ⟨xl, hxl, hxn⟩ := hlast.out.2.2.2
  have n0c := (hmc _ _ hxl _ (Chg.refl _ _)).1
  rw [hxn] at n0c
  obtain ⟨wb, wo, rfl, hwc⟩ := HX.out.im.word (by rw [HLN.out.1]; have := hlast.out; omega)
  have HWC := Go.Lib.hid hwc
  have HMC := Go.Lib.hid hmc
  obtain ⟨k1, k2, k3, _⟩ := hlast.out
  have e1 : IntKind.i64.wrap ((ml : Int) - 1) = ((ml - 1 : Nat) : Int) := by rw [i64w (by omega)]; omega
  have e2 : ((ml : Int) == 0) = false := by simp; omega
  have e3 : IntKind.i64.wrap ((ml : Int) + 2) = (ml : Int) + 2 := i64w (by omega)
  have e4 : decide ((wl : Int) < (ml : Int) + 2) = false := by simp; omega
  have e5 : ml - 1 < ml := by omega
  clear hmc hwc hxl hxn HSZ HN0 HN8 HL HS hs2 hlast
  go_wp2_with fail
  refine (num9_c _ _).mono ?_
  rintro e wz ⟨rfl, hz⟩
  obtain rfl := hz
  go_wp2_with fail
  clear e1 e2 e3 e4 e5 n0c
  have K := Go.Lib.hid (And.intro k1 (And.intro k2 k3))
  have hml2 : ml ≤ 4194304 := by omega
  clear k2 k1
  go_loopw [10] (fun v10 wr => ∃ k : Nat, k ≤ ml ∧ v10 = .int .i64 k ∧ Chg NoB w4 wr) (fun v10 _ => ml - (intOf v10).toNat)
  case atStart => exact ⟨0, Nat.zero_le _, rfl, Chg.refl _ _⟩
  case round =>
    obtain ⟨k, hk, rfl, hc⟩ := hrel
    have HCR := Go.Lib.hid hc
    by_cases hlt : k < ml
    · obtain ⟨⟨p, pa⟩, hx⟩ : ∃ x, l[k]? = some x := ⟨_, List.getElem?_eq_getElem (by rw [HLN.out.2]; exact hlt)⟩
      obtain ⟨ob, hst⟩ : ∃ ob, StandsP (getV v) i k ob p := stands_of HX.out.ld HX.out.lk (HX.out.im.get hx)
      have HST := Go.Lib.hid hst
      have HXK := Go.Lib.hid hx
      obtain ⟨base2, F2, hsv⟩ := HX.out.st
      have HLD := Go.Lib.hid (load_c (hsv.quiet hc) (nm := p.name) (by have := hst.nm; unfold maxLen; omega))
      have d0 := (HMC.out k _ hx wr hc).1
      have c0 := keepQ hc HC01.out.1
      have c1 := keepQ hc HC01.out.2
      clear hx hst hsv hc
      go_wp2_with fail
      refine HLD.out.mono ?_
      rintro e w5 ⟨hc5, hp5⟩
      rw [HST.out.file] at hp5
      obtain ⟨a, rfl, hOT⟩ := hp5
      obtain ⟨w6, hw⟩ : ∃ w, w5.alloc (.cells (obArr ob a) OT) = w := ⟨_, rfl⟩
      have hc6 : Chg NoB w5 w6 := by rw [← hw]; exact (Chg.refl NoB _).alloc _
      have HBO : Hid (Blk w6 w5.heap.size OT (obArr ob a)) := Go.Lib.hid (by rw [← hw]; exact Blk.new _ _ _)
      have HOB : Hid (ObIs w6 ob a) := Go.Lib.hid (hOT.is_.quiet hc6)
      have HC6 := Go.Lib.hid (HCR.out.trans (hc5.trans hc6))
      unfold obVal
      unfold obArr at hw
      have HW := Go.Lib.hid hw
      obtain ⟨cl, hcl⟩ : ∃ n, ob.code.length = n := ⟨_, rfl⟩
      obtain ⟨tl, htl⟩ : ∃ n, ob.text.length = n := ⟨_, rfl⟩
      obtain ⟨el, hel⟩ : ∃ n, ob.ents.length = n := ⟨_, rfl⟩
      obtain ⟨il, hil⟩ : ∃ n, ob.imps.length = n := ⟨_, rfl⟩
      obtain ⟨fl, hfl⟩ : ∃ n, ob.fixs.length = n := ⟨_, rfl⟩
      have HLO := Go.Lib.hid (And.intro hcl (And.intro htl (And.intro hel (And.intro hil hfl))))
      unfold obArr
      rw [hcl, htl, hel, hil, hfl]
      clear hc5 hOT hw hc6 HLD d0 c0 c1
      go_upto_region 18 with fail
      have hw : w5.alloc (.cells #[.string ob.name, .int .u32 ob.key, .slice a.iA il a.ic, .int .i64 ob.vars, .slice a.tA tl a.tc, .slice a.cA cl a.cc, .slice a.eA el a.ec, .slice a.fA fl a.fc] OT) = w6 := by rw [← hcl, ← htl, ← hel, ← hil, ← hfl]; exact HW.out
      rw [hw]
      clear hw HW hcl htl hel hil hfl
      generalize w5.heap.size = b5 at *
      obtain ⟨l1, l2, l3, l4, l5⟩ := HLO.out
      have o1 : w6.cell? ⟨b5, 1, none⟩ = some (.int .u32 ob.key) := HBO.out.cell 1
      have o2 : w6.cell? ⟨b5, 2, none⟩ = some (.slice a.iA il a.ic) := by rw [← l4]; exact HBO.out.cell 2
      have o3 : w6.cell? ⟨b5, 3, none⟩ = some (.int .i64 ob.vars) := HBO.out.cell 3
      have o4 : w6.cell? ⟨b5, 4, none⟩ = some (.slice a.tA tl a.tc) := by rw [← l2]; exact HBO.out.cell 4
      have o5 : w6.cell? ⟨b5, 5, none⟩ = some (.slice a.cA cl a.cc) := by rw [← l1]; exact HBO.out.cell 5
      have o6 : w6.cell? ⟨b5, 6, none⟩ = some (.slice a.eA el a.ec) := by rw [← l3]; exact HBO.out.cell 6
      have c0 := keepQ HC6.out HC01.out.1
      have c1 := keepQ HC6.out HC01.out.2
      obtain ⟨_, p1, p2, p3, p4⟩ := HMC.out k _ HXK.out w6 HC6.out
      simp only at p1 p2 p3 p4
      have HO2 := Go.Lib.hid (And.intro o2 (And.intro o5 (And.intro c0 (And.intro c1 (And.intro p2 p4)))))
      rw [HST.out.ents, l3] at p4
      rw [HST.out.key] at p1
      have q1 := HST.out.code
      have q2 := HST.out.data
      have q3 := HST.out.may.cl
      have q4 := HST.out.may.vt
      have q5 := HST.out.may.v0
      rw [HLN.out.1] at q1 q2
      rw [l1] at q1 q3
      rw [l2] at q2 q4
      obtain ⟨_, _, k3⟩ := K.out
      generalize hpc : p.code = pc at *
      generalize hpd : p.data = pd at *
      generalize hov : ob.vars = ov at *
      generalize hky : ob.key = ky at *
      have HPC := Go.Lib.hid (And.intro hpc (And.intro hky hov))
      have f1 : IntKind.i64.wrap ((pc : Int) + (cl : Int)) = (pc : Int) + (cl : Int) := i64w (by omega)
      have f2 : decide ((wl : Int) < (pc : Int) + (cl : Int)) = false := by simp; omega
      have f3 : Int.tdiv (pd : Int) 4 = ((pd / 4 : Nat) : Int) := by rw [Int.tdiv_eq_ediv_of_nonneg (by omega)]; rfl
      have hpd4 : pd / 4 ≤ 4194304 := by omega
      obtain ⟨pq, hpq⟩ : ∃ q, pd / 4 = q := ⟨_, rfl⟩
      rw [hpq] at f3 hpd4 q2
      have f4 : IntKind.i64.wrap (pq : Int) = (pq : Int) := i64w (by omega)
      have f5 : IntKind.i64.wrap (ov + (tl : Int)) = ov + (tl : Int) := i64w (by omega)
      obtain ⟨sq, hsq⟩ : ∃ q, (ov.toNat + tl) / 4 = q := ⟨_, rfl⟩
      have f6 : Int.tdiv (ov + (tl : Int)) 4 = (sq : Int) := by rw [Int.tdiv_eq_ediv_of_nonneg (by omega)]; omega
      rw [hsq] at q2
      have f7 : IntKind.i64.wrap (sq : Int) = (sq : Int) := i64w (by omega)
      have f8 : IntKind.i64.wrap ((pq : Int) + (sq : Int)) = (pq : Int) + (sq : Int) := i64w (by omega)
      have f9 : decide ((wl : Int) < (pq : Int) + (sq : Int)) = false := by simp; omega
      clear q1 q2 q3 q4 q5 l1 l2 l3 l4 l5 k3 hpc hpd hov hky hpd4 hpq hsq
      go_quiet ((go_at_call 14; with_reducible exact Calls.quiet_of_same (num9_q _ _)))
      have HC7 : Hid (Chg NoB w6 (w6.drewN nq)) := Go.Lib.hid ((Chg.refl NoB w6).drewN _)
      generalize w6.drewN nq = w7 at *
      clear o1 o2 o3 o4 o5 o6 c0 c1 p1 p2 p3 p4 f1 f2 f3 f4 f5 f6 f7 f8 f9
      go_wp2_with fail
      have HW7 : Hid (∀ {x : Addr} {u : Value}, w6.cell? x = some u → w7.cell? x = some u) := Go.Lib.hid fun h => keepQ HC7.out h
      have hil2 : il ≤ 12 := by
        have h1 := HST.out.may.im
        rw [HLO.out.2.2.2.1.symm]
        simp only [impsOk, Bool.and_eq_true, decide_eq_true_eq] at h1
        exact h1.2
      have hcl2 : cl ≤ 16384 := by rw [← HLO.out.1]; exact HST.out.may.cl
      have hkk : k ≤ 4194304 := by omega
      go_loopw [13] (fun v13 wx => ∃ j : Nat, j ≤ il ∧ v13 = .int .i64 j ∧ Chg NoB w7 wx) (fun v13 _ => il - (intOf v13).toNat)
      case atStart => exact ⟨0, Nat.zero_le _, rfl, Chg.refl _ _⟩
      case round =>
        obtain ⟨j, hj, rfl, hcx⟩ := hrel
        obtain ⟨wx, rfl⟩ : ∃ wx, wx = wr := ⟨wr, rfl⟩
        have HCX := Go.Lib.hid (HC7.out.trans hcx)
        have HCX0 := Go.Lib.hid hcx
        have o2 := keepQ HCX.out HO2.out.1
        clear hcx
        by_cases hjl : j < il
        · obtain ⟨x, hx⟩ : ∃ x, ob.imps[j]? = some x := ⟨_, List.getElem?_eq_getElem (by rw [HLO.out.2.2.2.1]; exact hjl)⟩
          obtain ⟨j0, q, hj0, hq, hqn, hqk, huq⟩ := HST.out.imp x (List.mem_of_getElem? hx)
          have HUQ := Go.Lib.hid huq
          obtain ⟨ibk, io, hiA, hic⟩ := HOB.out.imp (by rw [HLO.out.2.2.2.1]; omega)
          have HIC := Go.Lib.hid (hic j x hx)
          have HQ := Go.Lib.hid (And.intro hq (And.intro hqn hqk))
          have HIA := Go.Lib.hid hiA
          obtain ⟨nx, hnx⟩ : ∃ z, x.1 = z := ⟨_, rfl⟩
          have HNX := Go.Lib.hid hnx
          have HX2 := Go.Lib.hid hx
          clear hx hq hqn hqk huq hic hiA hnx
          go_wp2_with fail
          clear o2
          go_loopw [14, 15] (fun v14 v15 wy => ∃ m : Nat, m ≤ k ∧ v15 = .int .i64 m ∧ v14 = .int .i64 (if j0 < m then (j0 : Int) else -1) ∧ Chg NoB wx wy) (fun _ v15 _ => k - (intOf v15).toNat)
          case atStart => exact ⟨0, Nat.zero_le _, rfl, rfl, Chg.refl _ _⟩
          case round =>
            obtain ⟨m, hm, rfl, rfl, hcy⟩ := hrel
            have HCY := Go.Lib.hid (HCX.out.trans hcy)
            have HY0 := Go.Lib.hid hcy
            clear hcy
            by_cases hmk : m < k
            · obtain ⟨y, hy⟩ : ∃ y, l[m]? = some y := ⟨_, List.getElem?_eq_getElem (by rw [HLN.out.2]; omega)⟩
              have n0 := (HMC.out m _ hy wr (HC6.out.trans HCY.out)).1
              have i0 := (HIC.out wr HCY.out).1
              rw [HNX.out] at i0
              have o2 := keepQ HCY.out HO2.out.1
              rw [HIA.out] at o2
              have c1 := keepQ HCY.out HO2.out.2.2.2.1
              have HYM := Go.Lib.hid (HX.out.im.get hy)
              obtain ⟨yn, hyn⟩ : ∃ z, y.1.name = z := ⟨_, rfl⟩
              rw [hyn] at n0
              have HYN := Go.Lib.hid hyn
              have hm2 : m < ml := by omega
              clear hy hyn
              by_cases heq : yn = nx
              · have hd : (yn.toList == nx.toList) = true := by rw [heq]; simp
                have hmj : m = j0 := HUQ.out m y.1 HYM.out (by rw [HYN.out, HNX.out]; exact heq)
                have HMJ := Go.Lib.hid hmj
                have HEQ := Go.Lib.hid heq
                clear hmj heq
                obtain ⟨jv, hjv⟩ : ∃ z : Int, (if j0 < m then (j0 : Int) else -1) = z := ⟨_, rfl⟩
                rw [hjv]
                clear hjv
                go_wp2_with fail
                go_quiet (fail)
                go_wp2_with fail
                go_roundw
                case rel => exact ⟨m + 1, by omega, by go_num, by rw [← HMJ.out, if_pos (by omega)], HY0.out.drewN _⟩
                case measure => simp [intOf]; omega
              · have hd : (yn.toList == nx.toList) = false := by rw [eq_bytes]; exact decide_eq_false heq
                have HNE : Hid (m ≠ j0) := Go.Lib.hid (fun e => by
                  subst e
                  have h1 := HQ.out.1
                  rw [HYM.out] at h1
                  injection h1 with h1
                  apply heq
                  rw [← HYN.out, ← HNX.out, ← HQ.out.2.1, h1])
                have HEQ := Go.Lib.hid heq
                clear heq
                obtain ⟨jv, hjv⟩ : ∃ z : Int, (if j0 < m then (j0 : Int) else -1) = z := ⟨_, rfl⟩
                rw [hjv]
                have HJV := Go.Lib.hid hjv
                clear hjv
                go_wp2_with fail
                go_quiet (fail)
                go_wp2_with fail
                go_roundw
                case rel => exact ⟨m + 1, by omega, by go_num, by rw [← HJV.out]; exact jv_no HNE.out, HY0.out.drewN _⟩
                case measure => simp [intOf]; omega
            · obtain rfl : m = k := by omega
              rw [if_pos hj0]
              have hj1 : decide ((j0 : Int) < 0) = false := by simp
              have hj2 : j0 < ml := by omega
              obtain ⟨y, hy⟩ : ∃ y, l[j0]? = some y := ⟨_, List.getElem?_eq_getElem (by rw [HLN.out.2]; exact hj2)⟩
              have y1 := (HMC.out j0 _ hy wr (HC6.out.trans HCY.out)).2.1
              have i1 := (HIC.out wr HCY.out).2
              have hyk : y.1.key = x.2 := by
                have h1 := HQ.out.1
                rw [HX.out.im.get hy] at h1
                injection h1 with h1
                rw [h1]
                exact HQ.out.2.2
              rw [hyk] at y1
              have o2 := keepQ HCY.out HO2.out.1
              rw [HIA.out] at o2
              have c1 := keepQ HCY.out HO2.out.2.2.2.1
              obtain ⟨xk, hxk⟩ : ∃ z, x.2 = z := ⟨_, rfl⟩
              rw [hxk] at y1 i1
              clear hy hyk hxk
              go_wp2_with fail
              go_quiet (fail)
              go_wp2_with fail
              go_roundw
              case rel => exact ⟨j + 1, by omega, by go_num, (HCX0.out.trans HY0.out).drewN _⟩
              case measure => simp [intOf]; omega
        · obtain rfl : il = j := by omega
          go_wp2_with fail
          clear o2
          go_loopw [16] (fun v16 wy => ∃ t : Nat, t ≤ cl ∧ v16 = .int .i64 t ∧ Chg NoB w7 wy) (fun v16 _ => cl - (intOf v16).toNat)
          case atStart => exact ⟨0, Nat.zero_le _, rfl, HCX0.out⟩
          case round =>
            obtain ⟨t, ht, rfl, hcy⟩ := hrel
            have HCY := Go.Lib.hid (HC7.out.trans hcy)
            have HY0 := Go.Lib.hid hcy
            clear hcy
            have o5 := keepQ HCY.out HO2.out.2.1
            by_cases htl2 : t < cl
            · obtain ⟨wd, hwd⟩ : ∃ z, ob.code[t]? = some z := ⟨_, List.getElem?_eq_getElem (by rw [HLO.out.1]; exact htl2)⟩
              obtain ⟨cb, co, hcA, hcc⟩ := HOB.out.cod (by rw [HLO.out.1]; omega)
              have cw := hcc t wd hwd wr HCY.out
              have hfx := fixed_c (HOB.out.quiet (HCY.out.trans (Chg.refl NoB wr).drew)) HST.out.may t (by rw [HLO.out.1]; exact htl2)
              unfold obVal obArr at hfx
              rw [HLO.out.1, HLO.out.2.1, HLO.out.2.2.1, HLO.out.2.2.2.1, HLO.out.2.2.2.2, HPC.out.2.1, HPC.out.2.2] at hfx
              have o0 : wr.cell? ⟨b5, 0, none⟩ = some (.string ob.name) := keepQ HCY.out (HBO.out.cell 0)
              have o1 : wr.cell? ⟨b5, 1, none⟩ = some (.int .u32 ky) := by rw [← HPC.out.2.1]; exact keepQ HCY.out (HBO.out.cell 1)
              have o2 := keepQ HCY.out HO2.out.1
              have o3 : wr.cell? ⟨b5, 3, none⟩ = some (.int .i64 ov) := by rw [← HPC.out.2.2]; exact keepQ HCY.out (HBO.out.cell 3)
              have o4 : wr.cell? ⟨b5, 4, none⟩ = some (.slice a.tA tl a.tc) := by rw [← HLO.out.2.1]; exact keepQ HCY.out (HBO.out.cell 4)
              have o6 : wr.cell? ⟨b5, 6, none⟩ = some (.slice a.eA el a.ec) := by rw [← HLO.out.2.2.1]; exact keepQ HCY.out (HBO.out.cell 6)
              have o7 : wr.cell? ⟨b5, 7, none⟩ = some (.slice a.fA fl a.fc) := by rw [← HLO.out.2.2.2.2]; exact keepQ HCY.out (HBO.out.cell 7)
              have c0 := keepQ HCY.out HO2.out.2.2.1
              have c1 := keepQ HCY.out HO2.out.2.2.2.1
              have p2 := keepQ HCY.out HO2.out.2.2.2.2.1
              have q1 := HST.out.code
              rw [HLN.out.1, HLO.out.1, HPC.out.1] at q1
              obtain ⟨at2, hat2⟩ : ∃ n, pc + t = n := ⟨_, rfl⟩
              have HAT := Go.Lib.hid hat2
              have f1 : IntKind.i64.wrap ((pc : Int) + (t : Int)) = (at2 : Int) := by have := K.out; rw [i64w (by omega)]; omega
              have f2 : at2 < wl := by omega
              clear hat2
              rw [hcA] at hfx o5
              have HCA := Go.Lib.hid hcA
              have HWD := Go.Lib.hid hwd
              clear hwd hcc hcA q1
              obtain ⟨fb, hfb⟩ : ∃ b, fixA ob t = b := ⟨_, rfl⟩
              rw [hfb] at hfx
              have HFX := Go.Lib.hid hfx
              clear hfx
              go_upto_region 34 with fail
              cases fb with
              | true =>
                clear hfb cw c0 c1 p2 f1 f2
                refine regionT 23 (fun V' => Chg NoB (wr) V') (by kernel_rfl) (by decide) ((Chg.refl NoB wr).drew) (fun inv hHeld => ?_)
                refine takeT (i := 0) (t := 197) (v := ?v0y1) rfl (by kernel_rfl) (by kernel_rfl) (by kernel_rfl) (fun _ _ _ h => h) (by kernel_rfl) (by kernel_rfl) (by decide) (by decide) rfl (Or.inl ⟨by rfl, ?h0y1⟩) inv hHeld ?r0y1
                case h0y1 => (intro V' hSw; have q0 := keepQ hSw o0; have q1 := keepQ hSw o1; have q2 := keepQ hSw o2; have q3 := keepQ hSw o3; have q4 := keepQ hSw o4; have q5 := keepQ hSw o5; have q6 := keepQ hSw o6; have q7 := keepQ hSw o7; clear hSw; go_simp; try with_reducible rfl)
                clear inv
                intro inv
                try simp only [List.setIfInBounds_toArray, List.set_cons_zero, List.set_cons_succ]
                refine takeT (i := 1) (t := 198) (v := ?v1y2) rfl (by kernel_rfl) (by kernel_rfl) (by kernel_rfl) (fun _ _ _ h => h) (by kernel_rfl) (by kernel_rfl) (by decide) (by decide) rfl (Or.inl ⟨by rfl, ?h1y2⟩) inv hHeld ?r1y2
                case h1y2 => (intro V' hSw; clear hSw; go_simp; try with_reducible rfl)
                clear inv
                intro inv
                try simp only [List.setIfInBounds_toArray, List.set_cons_zero, List.set_cons_succ]
                refine callT (i := 2) (t := 199) (f := 17) (args := #[.agg #[.string ob.name, .int .u32 ky, .slice a.iA il a.ic, .int .i64 ov, .slice a.tA tl a.tc, .slice (some ⟨cb, co, none⟩) cl a.cc, .slice a.eA el a.ec, .slice a.fA fl a.fc], .int .i64 t]) rfl (by kernel_rfl) rfl (by rfl) ?hx3 inv (by decide) ?hc3
                case hx3 => (go_simp; try rfl)
                case hc3 =>
                  refine (HFX.out).mono ?_
                  rintro e wq ⟨rfl, hcq⟩
                  refine ⟨_, rfl, hHeld.trans hcq, fun inv2 hHeld2 => ?_⟩
                  clear inv hHeld
                  have inv := inv2
                  have hHeld := hHeld2
                  clear inv2 hHeld2
                  try simp only [List.setIfInBounds_toArray, List.set_cons_zero, List.set_cons_succ]
                  refine takeT (i := 3) (t := 200) (v := .bool false) rfl (by kernel_rfl) (by kernel_rfl) (by kernel_rfl) (fun _ _ _ h => h) (by kernel_rfl) (by kernel_rfl) (by decide) (by decide) rfl (Or.inl ⟨by rfl, ?h3y4⟩) inv hHeld ?r3y4
                  case h3y4 => (intro V' hSw; clear hSw; go_simp; try with_reducible rfl)
                  clear inv
                  intro inv
                  try simp only [List.setIfInBounds_toArray, List.set_cons_zero, List.set_cons_succ]
                  refine takeT (i := 4) (t := 201) (v := .bool false) rfl (by kernel_rfl) (by kernel_rfl) (by kernel_rfl) (fun _ _ _ h => h) (by kernel_rfl) (by kernel_rfl) (by decide) (by decide) rfl (Or.inl ⟨by rfl, ?h4y5⟩) inv hHeld ?r4y5
                  case h4y5 => (intro V' hSw; clear hSw; go_simp; try with_reducible rfl)
                  clear inv
                  intro inv
                  try simp only [List.setIfInBounds_toArray, List.set_cons_zero, List.set_cons_succ]
                  refine takeT (i := 5) (t := 202) (v := undef) rfl (by kernel_rfl) (by kernel_rfl) (by kernel_rfl) (fun _ _ _ h => h) (by kernel_rfl) (by kernel_rfl) (by decide) (by decide) rfl (Or.inr ⟨by rfl, rfl⟩) inv hHeld ?r5y6
                  clear inv
                  intro inv
                  try simp only [List.setIfInBounds_toArray, List.set_cons_zero, List.set_cons_succ]
                  refine takeT (i := 6) (t := 203) (v := undef) rfl (by kernel_rfl) (by kernel_rfl) (by kernel_rfl) (fun _ _ _ h => h) (by kernel_rfl) (by kernel_rfl) (by decide) (by decide) rfl (Or.inr ⟨by rfl, rfl⟩) inv hHeld ?r6y7
                  clear inv
                  intro inv
                  try simp only [List.setIfInBounds_toArray, List.set_cons_zero, List.set_cons_succ]
                  refine takeT (i := 7) (t := 204) (v := undef) rfl (by kernel_rfl) (by kernel_rfl) (by kernel_rfl) (fun _ _ _ h => h) (by kernel_rfl) (by kernel_rfl) (by decide) (by decide) rfl (Or.inr ⟨by rfl, rfl⟩) inv hHeld ?r7y8
                  clear inv
                  intro inv
                  try simp only [List.setIfInBounds_toArray, List.set_cons_zero, List.set_cons_succ]
                  refine takeT (i := 8) (t := 205) (v := undef) rfl (by kernel_rfl) (by kernel_rfl) (by kernel_rfl) (fun _ _ _ h => h) (by kernel_rfl) (by kernel_rfl) (by decide) (by decide) rfl (Or.inr ⟨by rfl, rfl⟩) inv hHeld ?r8y9
                  clear inv
                  intro inv
                  try simp only [List.setIfInBounds_toArray, List.set_cons_zero, List.set_cons_succ]
                  refine takeT (i := 9) (t := 206) (v := undef) rfl (by kernel_rfl) (by kernel_rfl) (by kernel_rfl) (fun _ _ _ h => h) (by kernel_rfl) (by kernel_rfl) (by decide) (by decide) rfl (Or.inr ⟨by rfl, rfl⟩) inv hHeld ?r9y10
                  clear inv
                  intro inv
                  try simp only [List.setIfInBounds_toArray, List.set_cons_zero, List.set_cons_succ]
                  refine takeT (i := 10) (t := 207) (v := undef) rfl (by kernel_rfl) (by kernel_rfl) (by kernel_rfl) (fun _ _ _ h => h) (by kernel_rfl) (by kernel_rfl) (by decide) (by decide) rfl (Or.inr ⟨by rfl, rfl⟩) inv hHeld ?r10y11
                  clear inv
                  intro inv
                  try simp only [List.setIfInBounds_toArray, List.set_cons_zero, List.set_cons_succ]
                  refine takeT (i := 11) (t := 208) (v := undef) rfl (by kernel_rfl) (by kernel_rfl) (by kernel_rfl) (fun _ _ _ h => h) (by kernel_rfl) (by kernel_rfl) (by decide) (by decide) rfl (Or.inr ⟨by rfl, rfl⟩) inv hHeld ?r11y12
                  clear inv
                  intro inv
                  try simp only [List.setIfInBounds_toArray, List.set_cons_zero, List.set_cons_succ]
                  refine takeT (i := 12) (t := 209) (v := undef) rfl (by kernel_rfl) (by kernel_rfl) (by kernel_rfl) (fun _ _ _ h => h) (by kernel_rfl) (by kernel_rfl) (by decide) (by decide) rfl (Or.inr ⟨by rfl, rfl⟩) inv hHeld ?r12y13
                  clear inv
                  intro inv
                  try simp only [List.setIfInBounds_toArray, List.set_cons_zero, List.set_cons_succ]
                  refine takeT (i := 13) (t := 210) (v := undef) rfl (by kernel_rfl) (by kernel_rfl) (by kernel_rfl) (fun _ _ _ h => h) (by kernel_rfl) (by kernel_rfl) (by decide) (by decide) rfl (Or.inr ⟨by rfl, rfl⟩) inv hHeld ?r13y14
                  clear inv
                  intro inv
                  try simp only [List.setIfInBounds_toArray, List.set_cons_zero, List.set_cons_succ]
                  refine takeT (i := 14) (t := 211) (v := undef) rfl (by kernel_rfl) (by kernel_rfl) (by kernel_rfl) (fun _ _ _ h => h) (by kernel_rfl) (by kernel_rfl) (by decide) (by decide) rfl (Or.inr ⟨by rfl, rfl⟩) inv hHeld ?r14y15
                  clear inv
                  intro inv
                  try simp only [List.setIfInBounds_toArray, List.set_cons_zero, List.set_cons_succ]
                  refine takeT (i := 15) (t := 212) (v := undef) rfl (by kernel_rfl) (by kernel_rfl) (by kernel_rfl) (fun _ _ _ h => h) (by kernel_rfl) (by kernel_rfl) (by decide) (by decide) rfl (Or.inr ⟨by rfl, rfl⟩) inv hHeld ?r15y16
                  clear inv
                  intro inv
                  try simp only [List.setIfInBounds_toArray, List.set_cons_zero, List.set_cons_succ]
                  refine takeT (i := 16) (t := 213) (v := undef) rfl (by kernel_rfl) (by kernel_rfl) (by kernel_rfl) (fun _ _ _ h => h) (by kernel_rfl) (by kernel_rfl) (by decide) (by decide) rfl (Or.inr ⟨by rfl, rfl⟩) inv hHeld ?r16y17
                  clear inv
                  intro inv
                  try simp only [List.setIfInBounds_toArray, List.set_cons_zero, List.set_cons_succ]
                  refine takeT (i := 17) (t := 214) (v := undef) rfl (by kernel_rfl) (by kernel_rfl) (by kernel_rfl) (fun _ _ _ h => h) (by kernel_rfl) (by kernel_rfl) (by decide) (by decide) rfl (Or.inr ⟨by rfl, rfl⟩) inv hHeld ?r17y18
                  clear inv
                  intro inv
                  try simp only [List.setIfInBounds_toArray, List.set_cons_zero, List.set_cons_succ]
                  refine takeT (i := 18) (t := 215) (v := undef) rfl (by kernel_rfl) (by kernel_rfl) (by kernel_rfl) (fun _ _ _ h => h) (by kernel_rfl) (by kernel_rfl) (by decide) (by decide) rfl (Or.inr ⟨by rfl, rfl⟩) inv hHeld ?r18y19
                  clear inv
                  intro inv
                  try simp only [List.setIfInBounds_toArray, List.set_cons_zero, List.set_cons_succ]
                  refine takeT (i := 19) (t := 216) (v := undef) rfl (by kernel_rfl) (by kernel_rfl) (by kernel_rfl) (fun _ _ _ h => h) (by kernel_rfl) (by kernel_rfl) (by decide) (by decide) rfl (Or.inr ⟨by rfl, rfl⟩) inv hHeld ?r19y20
                  clear inv
                  intro inv
                  try simp only [List.setIfInBounds_toArray, List.set_cons_zero, List.set_cons_succ]
                  refine takeT (i := 20) (t := 217) (v := undef) rfl (by kernel_rfl) (by kernel_rfl) (by kernel_rfl) (fun _ _ _ h => h) (by kernel_rfl) (by kernel_rfl) (by decide) (by decide) rfl (Or.inr ⟨by rfl, rfl⟩) inv hHeld ?r20y21
                  clear inv
                  intro inv
                  try simp only [List.setIfInBounds_toArray, List.set_cons_zero, List.set_cons_succ]
                  refine takeT (i := 21) (t := 218) (v := undef) rfl (by kernel_rfl) (by kernel_rfl) (by kernel_rfl) (fun _ _ _ h => h) (by kernel_rfl) (by kernel_rfl) (by decide) (by decide) rfl (Or.inr ⟨by rfl, rfl⟩) inv hHeld ?r21y22
                  clear inv
                  intro inv
                  try simp only [List.setIfInBounds_toArray, List.set_cons_zero, List.set_cons_succ]
                  refine takeT (i := 22) (t := 219) (v := undef) rfl (by kernel_rfl) (by kernel_rfl) (by kernel_rfl) (fun _ _ _ h => h) (by kernel_rfl) (by kernel_rfl) (by decide) (by decide) rfl (Or.inr ⟨by rfl, rfl⟩) inv hHeld ?r22y23
                  clear inv
                  intro inv
                  try simp only [List.setIfInBounds_toArray, List.set_cons_zero, List.set_cons_succ]
                  refine lastV (i := 23) (t := 220) (v := .bool false) (w' := wq) rfl (by kernel_rfl) rfl (by rfl) ?hx24 (by decide) (by kernel_rfl) ?_
                  case hx24 => (go_simp; try with_reducible rfl)
                  clear inv
                  clear hHeld
                  have HCQ := Go.Lib.hid ((Chg.refl NoB wr).drew.trans hcq)
                  clear hcq
                  go_wp2_with fail
                  go_roundw
                  case rel => exact ⟨t + 1, by omega, by go_num, HY0.out.trans HCQ.out⟩
                  case measure => simp [intOf]; omega
              | false =>
                have hwp := HST.out.word t (by rw [HLO.out.1]; exact htl2) (fixA_no hfb)
                rw [HPC.out.1, HWD.out] at hwp
                have cx := HWC.out _ _ hwp wr (HC6.out.trans HCY.out)
                rw [HAT.out] at cx
                clear hfb hwp
                refine regionT 23 (fun V' => Chg NoB (wr) V') (by kernel_rfl) (by decide) ((Chg.refl NoB wr).drew) (fun inv hHeld => ?_)
                refine takeT (i := 0) (t := 197) (v := ?v0y25) rfl (by kernel_rfl) (by kernel_rfl) (by kernel_rfl) (fun _ _ _ h => h) (by kernel_rfl) (by kernel_rfl) (by decide) (by decide) rfl (Or.inl ⟨by rfl, ?h0y25⟩) inv hHeld ?r0y25
                case h0y25 => (intro V' hSw; have q0 := keepQ hSw o0; have q1 := keepQ hSw o1; have q2 := keepQ hSw o2; have q3 := keepQ hSw o3; have q4 := keepQ hSw o4; have q5 := keepQ hSw o5; have q6 := keepQ hSw o6; have q7 := keepQ hSw o7; clear hSw; go_simp; try with_reducible rfl)
                clear inv
                intro inv
                try simp only [List.setIfInBounds_toArray, List.set_cons_zero, List.set_cons_succ]
                refine takeT (i := 1) (t := 198) (v := ?v1y26) rfl (by kernel_rfl) (by kernel_rfl) (by kernel_rfl) (fun _ _ _ h => h) (by kernel_rfl) (by kernel_rfl) (by decide) (by decide) rfl (Or.inl ⟨by rfl, ?h1y26⟩) inv hHeld ?r1y26
                case h1y26 => (intro V' hSw; clear hSw; go_simp; try with_reducible rfl)
                clear inv
                intro inv
                try simp only [List.setIfInBounds_toArray, List.set_cons_zero, List.set_cons_succ]
                refine callT (i := 2) (t := 199) (f := 17) (args := #[.agg #[.string ob.name, .int .u32 ky, .slice a.iA il a.ic, .int .i64 ov, .slice a.tA tl a.tc, .slice (some ⟨cb, co, none⟩) cl a.cc, .slice a.eA el a.ec, .slice a.fA fl a.fc], .int .i64 t]) rfl (by kernel_rfl) rfl (by rfl) ?hx27 inv (by decide) ?hc27
                case hx27 => (go_simp; try rfl)
                case hc27 =>
                  refine (HFX.out).mono ?_
                  rintro e wq ⟨rfl, hcq⟩
                  refine ⟨_, rfl, hHeld.trans hcq, fun inv2 hHeld2 => ?_⟩
                  clear inv hHeld
                  have inv := inv2
                  have hHeld := hHeld2
                  clear inv2 hHeld2
                  try simp only [List.setIfInBounds_toArray, List.set_cons_zero, List.set_cons_succ]
                  refine takeT (i := 3) (t := 200) (v := .bool true) rfl (by kernel_rfl) (by kernel_rfl) (by kernel_rfl) (fun _ _ _ h => h) (by kernel_rfl) (by kernel_rfl) (by decide) (by decide) rfl (Or.inl ⟨by rfl, ?h3y28⟩) inv hHeld ?r3y28
                  case h3y28 => (intro V' hSw; clear hSw; go_simp; try with_reducible rfl)
                  clear inv
                  intro inv
                  try simp only [List.setIfInBounds_toArray, List.set_cons_zero, List.set_cons_succ]
                  refine takeT (i := 4) (t := 201) (v := .bool true) rfl (by kernel_rfl) (by kernel_rfl) (by kernel_rfl) (fun _ _ _ h => h) (by kernel_rfl) (by kernel_rfl) (by decide) (by decide) rfl (Or.inl ⟨by rfl, ?h4y29⟩) inv hHeld ?r4y29
                  case h4y29 => (intro V' hSw; clear hSw; go_simp; try with_reducible rfl)
                  clear inv
                  intro inv
                  try simp only [List.setIfInBounds_toArray, List.set_cons_zero, List.set_cons_succ]
                  refine takeT (i := 5) (t := 202) (v := ?v5y30) rfl (by kernel_rfl) (by kernel_rfl) (by kernel_rfl) (fun _ _ _ h => h) (by kernel_rfl) (by kernel_rfl) (by decide) (by decide) rfl (Or.inl ⟨by rfl, ?h5y30⟩) inv hHeld ?r5y30
                  case h5y30 => (intro V' hSw; clear hSw; go_simp; try with_reducible rfl)
                  clear inv
                  intro inv
                  try simp only [List.setIfInBounds_toArray, List.set_cons_zero, List.set_cons_succ]
                  refine takeT (i := 6) (t := 203) (v := ?v6y31) rfl (by kernel_rfl) (by kernel_rfl) (by kernel_rfl) (fun _ _ _ h => h) (by kernel_rfl) (by kernel_rfl) (by decide) (by decide) rfl (Or.inl ⟨by rfl, ?h6y31⟩) inv hHeld ?r6y31
                  case h6y31 => (intro V' hSw; have hq := keepQ hSw c0; clear hSw; go_simp; try with_reducible rfl)
                  clear inv
                  intro inv
                  try simp only [List.setIfInBounds_toArray, List.set_cons_zero, List.set_cons_succ]
                  refine takeT (i := 7) (t := 204) (v := ?v7y32) rfl (by kernel_rfl) (by kernel_rfl) (by kernel_rfl) (fun _ _ _ h => h) (by kernel_rfl) (by kernel_rfl) (by decide) (by decide) rfl (Or.inl ⟨by rfl, ?h7y32⟩) inv hHeld ?r7y32
                  case h7y32 => (intro V' hSw; clear hSw; go_simp; try with_reducible rfl)
                  clear inv
                  intro inv
                  try simp only [List.setIfInBounds_toArray, List.set_cons_zero, List.set_cons_succ]
                  refine takeT (i := 8) (t := 205) (v := ?v8y33) rfl (by kernel_rfl) (by kernel_rfl) (by kernel_rfl) (fun _ _ _ h => h) (by kernel_rfl) (by kernel_rfl) (by decide) (by decide) rfl (Or.inl ⟨by rfl, ?h8y33⟩) inv hHeld ?r8y33
                  case h8y33 => (intro V' hSw; have hq := keepQ hSw c1; clear hSw; go_simp; try with_reducible rfl)
                  clear inv
                  intro inv
                  try simp only [List.setIfInBounds_toArray, List.set_cons_zero, List.set_cons_succ]
                  refine takeT (i := 9) (t := 206) (v := ?v9y34) rfl (by kernel_rfl) (by kernel_rfl) (by kernel_rfl) (fun _ _ _ h => h) (by kernel_rfl) (by kernel_rfl) (by decide) (by decide) rfl (Or.inl ⟨by rfl, ?h9y34⟩) inv hHeld ?r9y34
                  case h9y34 => (intro V' hSw; clear hSw; go_simp; try with_reducible rfl)
                  clear inv
                  intro inv
                  try simp only [List.setIfInBounds_toArray, List.set_cons_zero, List.set_cons_succ]
                  refine takeT (i := 10) (t := 207) (v := ?v10y35) rfl (by kernel_rfl) (by kernel_rfl) (by kernel_rfl) (fun _ _ _ h => h) (by kernel_rfl) (by kernel_rfl) (by decide) (by decide) rfl (Or.inl ⟨by rfl, ?h10y35⟩) inv hHeld ?r10y35
                  case h10y35 => (intro V' hSw; clear hSw; go_simp; try with_reducible rfl)
                  clear inv
                  intro inv
                  try simp only [List.setIfInBounds_toArray, List.set_cons_zero, List.set_cons_succ]
                  refine takeT (i := 11) (t := 208) (v := ?v11y36) rfl (by kernel_rfl) (by kernel_rfl) (by kernel_rfl) (fun _ _ _ h => h) (by kernel_rfl) (by kernel_rfl) (by decide) (by decide) rfl (Or.inl ⟨by rfl, ?h11y36⟩) inv hHeld ?r11y36
                  case h11y36 => (intro V' hSw; clear hSw; go_simp; try with_reducible rfl)
                  clear inv
                  intro inv
                  try simp only [List.setIfInBounds_toArray, List.set_cons_zero, List.set_cons_succ]
                  refine takeT (i := 12) (t := 209) (v := ?v12y37) rfl (by kernel_rfl) (by kernel_rfl) (by kernel_rfl) (fun _ _ _ h => h) (by kernel_rfl) (by kernel_rfl) (by decide) (by decide) rfl (Or.inl ⟨by rfl, ?h12y37⟩) inv hHeld ?r12y37
                  case h12y37 => (intro V' hSw; have hq := keepQ hSw p2; clear hSw; go_simp; try with_reducible rfl)
                  clear inv
                  intro inv
                  try simp only [List.setIfInBounds_toArray, List.set_cons_zero, List.set_cons_succ]
                  refine takeT (i := 13) (t := 210) (v := ?v13y38) rfl (by kernel_rfl) (by kernel_rfl) (by kernel_rfl) (fun _ _ _ h => h) (by kernel_rfl) (by kernel_rfl) (by decide) (by decide) rfl (Or.inl ⟨by rfl, ?h13y38⟩) inv hHeld ?r13y38
                  case h13y38 => (intro V' hSw; clear hSw; go_simp; try with_reducible rfl)
                  clear inv
                  intro inv
                  try simp only [List.setIfInBounds_toArray, List.set_cons_zero, List.set_cons_succ]
                  refine takeT (i := 14) (t := 211) (v := ?v14y39) rfl (by kernel_rfl) (by kernel_rfl) (by kernel_rfl) (fun _ _ _ h => h) (by kernel_rfl) (by kernel_rfl) (by decide) (by decide) rfl (Or.inl ⟨by rfl, ?h14y39⟩) inv hHeld ?r14y39
                  case h14y39 => (intro V' hSw; clear hSw; go_simp; try with_reducible rfl)
                  clear inv
                  intro inv
                  try simp only [List.setIfInBounds_toArray, List.set_cons_zero, List.set_cons_succ]
                  refine takeT (i := 15) (t := 212) (v := ?v15y40) rfl (by kernel_rfl) (by kernel_rfl) (by kernel_rfl) (fun _ _ _ h => h) (by kernel_rfl) (by kernel_rfl) (by decide) (by decide) rfl (Or.inl ⟨by rfl, ?h15y40⟩) inv hHeld ?r15y40
                  case h15y40 => (intro V' hSw; clear hSw; go_simp; try with_reducible rfl)
                  clear inv
                  intro inv
                  try simp only [List.setIfInBounds_toArray, List.set_cons_zero, List.set_cons_succ]
                  refine takeT (i := 16) (t := 213) (v := ?v16y41) rfl (by kernel_rfl) (by kernel_rfl) (by kernel_rfl) (fun _ _ _ h => h) (by kernel_rfl) (by kernel_rfl) (by decide) (by decide) rfl (Or.inl ⟨by rfl, ?h16y41⟩) inv hHeld ?r16y41
                  case h16y41 => (intro V' hSw; have hq := keepQ hSw cx; clear hSw; go_simp; try with_reducible rfl)
                  clear inv
                  intro inv
                  try simp only [List.setIfInBounds_toArray, List.set_cons_zero, List.set_cons_succ]
                  refine takeT (i := 17) (t := 214) (v := ?v17y42) rfl (by kernel_rfl) (by kernel_rfl) (by kernel_rfl) (fun _ _ _ h => h) (by kernel_rfl) (by kernel_rfl) (by decide) (by decide) rfl (Or.inl ⟨by rfl, ?h17y42⟩) inv hHeld ?r17y42
                  case h17y42 => (intro V' hSw; clear hSw; go_simp; try with_reducible rfl)
                  clear inv
                  intro inv
                  try simp only [List.setIfInBounds_toArray, List.set_cons_zero, List.set_cons_succ]
                  refine takeT (i := 18) (t := 215) (v := ?v18y43) rfl (by kernel_rfl) (by kernel_rfl) (by kernel_rfl) (fun _ _ _ h => h) (by kernel_rfl) (by kernel_rfl) (by decide) (by decide) rfl (Or.inl ⟨by rfl, ?h18y43⟩) inv hHeld ?r18y43
                  case h18y43 => (intro V' hSw; have hq := keepQ hSw o5; clear hSw; go_simp; try with_reducible rfl)
                  clear inv
                  intro inv
                  try simp only [List.setIfInBounds_toArray, List.set_cons_zero, List.set_cons_succ]
                  refine takeT (i := 19) (t := 216) (v := ?v19y44) rfl (by kernel_rfl) (by kernel_rfl) (by kernel_rfl) (fun _ _ _ h => h) (by kernel_rfl) (by kernel_rfl) (by decide) (by decide) rfl (Or.inl ⟨by rfl, ?h19y44⟩) inv hHeld ?r19y44
                  case h19y44 => (intro V' hSw; clear hSw; go_simp; try with_reducible rfl)
                  clear inv
                  intro inv
                  try simp only [List.setIfInBounds_toArray, List.set_cons_zero, List.set_cons_succ]
                  refine takeT (i := 20) (t := 217) (v := ?v20y45) rfl (by kernel_rfl) (by kernel_rfl) (by kernel_rfl) (fun _ _ _ h => h) (by kernel_rfl) (by kernel_rfl) (by decide) (by decide) rfl (Or.inl ⟨by rfl, ?h20y45⟩) inv hHeld ?r20y45
                  case h20y45 => (intro V' hSw; clear hSw; go_simp; try with_reducible rfl)
                  clear inv
                  intro inv
                  try simp only [List.setIfInBounds_toArray, List.set_cons_zero, List.set_cons_succ]
                  refine takeT (i := 21) (t := 218) (v := ?v21y46) rfl (by kernel_rfl) (by kernel_rfl) (by kernel_rfl) (fun _ _ _ h => h) (by kernel_rfl) (by kernel_rfl) (by decide) (by decide) rfl (Or.inl ⟨by rfl, ?h21y46⟩) inv hHeld ?r21y46
                  case h21y46 => (intro V' hSw; have hq := keepQ hSw cw; clear hSw; go_simp; try with_reducible rfl)
                  clear inv
                  intro inv
                  try simp only [List.setIfInBounds_toArray, List.set_cons_zero, List.set_cons_succ]
                  refine takeT (i := 22) (t := 219) (v := .bool false) rfl (by kernel_rfl) (by kernel_rfl) (by kernel_rfl) (fun _ _ _ h => h) (by kernel_rfl) (by kernel_rfl) (by decide) (by decide) rfl (Or.inl ⟨by rfl, ?h22y47⟩) inv hHeld ?r22y47
                  case h22y47 => (intro V' hSw; clear hSw; go_simp; try with_reducible rfl)
                  clear inv
                  intro inv
                  try simp only [List.setIfInBounds_toArray, List.set_cons_zero, List.set_cons_succ]
                  refine lastV (i := 23) (t := 220) (v := .bool false) (w' := wq) rfl (by kernel_rfl) rfl (by rfl) ?hx48 (by decide) (by kernel_rfl) ?_
                  case hx48 => (go_simp; try with_reducible rfl)
                  clear inv
                  clear hHeld
                  have HCQ := Go.Lib.hid ((Chg.refl NoB wr).drew.trans hcq)
                  clear hcq
                  go_wp2_with fail
                  go_roundw
                  case rel => exact ⟨t + 1, by omega, by go_num, HY0.out.trans HCQ.out⟩
                  case measure => simp [intOf]; omega
            · obtain rfl : t = cl := by omega
              obtain ⟨ev, he0, hke, he24, hjw⟩ := HST.out.jump
              have cx := HWC.out _ _ hjw wr (HC6.out.trans HCY.out)
              have c0 := keepQ HCY.out HO2.out.2.2.1
              have c1 := keepQ HCY.out HO2.out.2.2.2.1
              have p4 := keepQ HCY.out HO2.out.2.2.2.2.2
              have hent := HX.out.im.ent _ (List.mem_of_getElem? HXK.out)
              have hel0 : 0 < p.ents.length := (List.getElem?_eq_some_iff.1 he0).1
              obtain ⟨eb, eo, hea, hec⟩ := hent.row.flat (by simpa [entCells] using hel0)
              have ec : wr.cell? ⟨eb, eo, none⟩ = some (.int .i64 (ev : Int)) := keepQ (HC6.out.trans HCY.out) (hec 0 (.int .i64 (ev : Int)) (by rw [entCells, List.getElem?_map, he0]; rfl))
              simp only at hea
              rw [hea] at p4
              obtain ⟨pl, hpl⟩ : ∃ z, p.ents.length = z := ⟨_, rfl⟩
              rw [hpl] at p4 hel0
              obtain ⟨jw, hjv⟩ : ∃ z, 4143972352 + (ev - k - 1) = z := ⟨_, rfl⟩
              rw [hjv] at cx
              have g1 : Int.tdiv (jw : Int) 16777216 = 247 := by rw [Int.tdiv_eq_ediv_of_nonneg (by omega)]; omega
              have g2 : Int.tmod (jw : Int) 16777216 = ((ev - k - 1 : Nat) : Int) := by rw [Int.tmod_eq_emod_of_nonneg (by omega)]; omega
              have g3 : IntKind.i64.wrap ((ev : Int) - (k : Int)) = ((ev - k : Nat) : Int) := by rw [i64w (by omega)]; omega
              have g4 : IntKind.i64.wrap (((ev - k : Nat) : Int) - 1) = ((ev - k - 1 : Nat) : Int) := by rw [i64w (by omega)]; omega
              have g5 : Int.tmod ((ev - k - 1 : Nat) : Int) 16777216 = ((ev - k - 1 : Nat) : Int) := by rw [Int.tmod_eq_emod_of_nonneg (by omega)]; omega
              have g6 : IntKind.i64.wrap ((ev - k - 1 : Nat) : Int) = ((ev - k - 1 : Nat) : Int) := i64w (by omega)
              have g7 : IntKind.u32.wrap ((ev - k - 1 : Nat) : Int) = ((ev - k - 1 : Nat) : Int) := Int.emod_eq_of_lt (b := 4294967296) (by omega) (by omega)
              have g8 : k < wl := by have := K.out; omega
              generalize ev - k - 1 = dv at *
              generalize ev - k = du at *
              clear hjw he0 hke he24 hent hea hec hpl hjv
              go_wp2_with fail
              go_roundw
              case rel => exact ⟨k + 1, by omega, by go_num, HC6.out.trans HCY.out⟩
              case measure => simp [intOf]; omega
    · obtain rfl : k = ml := by omega
      go_wp2_with fail
      go_ret
      exact ⟨rfl, HX.out.chg.trans HCR.out⟩
theorem linkMeans_walk {W : World} (A : Option Addr) (L : List (Ob × OA)) (c : Nat) (hA : CellsAt W A (L.flatMap fun x => (obArr x.1 x.2).toList)) (hO : ∀ x ∈ L, ObIs W x.1 x.2) (hL : L.length ≤ maxLen) (nm : ByteArray) (hn : nm.size ≤ maxLen) : Calls Try.prog 4 #[.slice A L.length c, .string nm] W fun e w' => e = .returned (.bool true) ∧ Chg NoB W w' :=
  linkMeans_c hA hO hL hn
end Go.Proofs.Yteleglkoagnmcaa
