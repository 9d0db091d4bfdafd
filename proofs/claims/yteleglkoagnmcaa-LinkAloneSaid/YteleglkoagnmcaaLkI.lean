/- What is proved: which objects may be, as object answers. Conditions: the memory holds the object. -/
import Derived.Test.YteleglkoagnmcaaLkH
import Derived.Laws.EntriesVeiled
import Derived.Deep.CutRange
import Derived.Deep.CutBlock
import Derived.BigQuiet
set_option linter.unusedSimpArgs false
set_option linter.unusedVariables false
namespace Go.Proofs.Yteleglkoagnmcaa
open Go Go.RowKit
section
variable {W : World} {o : Ob} {a : OA}
theorem in_c {ob cl cc : Nat} {cA : Option Addr} (h : W.cell? ⟨ob, 5, none⟩ = some (.slice cA cl cc)) {x : Int} {b : Bool} (hb : (decide (0 ≤ x) && decide (x < (cl : Int))) = b) : Calls Try.prog 75 #[.int .i64 x, .pointer (some ⟨ob, 0, none⟩)] W fun e w' => e = .returned (.bool b) ∧ W = w' := by
  have HB := Go.Lib.hid hb
  by_cases h0 : 0 ≤ x
  · by_cases h1 : x < (cl : Int)
    · have hbt : b = true := by rw [← hb, decide_eq_true h0, decide_eq_true h1]; rfl
      subst hbt
      clear hb HB
      have f0 : decide (0 ≤ x) = true := decide_eq_true h0
      have f1 : decide (x < (cl : Int)) = true := decide_eq_true h1
      go_enter Try.func75, Try.ntmps75
      go_wp2_with fail
      go_ret
      exact ⟨rfl, rfl⟩
    · have hbt : b = false := by rw [← hb, decide_eq_false h1]; simp
      subst hbt
      clear hb HB
      have f0 : decide (0 ≤ x) = true := decide_eq_true h0
      have f1 : decide (x < (cl : Int)) = false := decide_eq_false h1
      go_enter Try.func75, Try.ntmps75
      go_wp2_with fail
      go_ret
      exact ⟨rfl, rfl⟩
  · have hbt : b = false := by rw [← hb, decide_eq_false h0]; simp
    subst hbt
    clear hb HB
    have f0 : decide (0 ≤ x) = false := decide_eq_false h0
    go_enter Try.func75, Try.ntmps75
    go_wp2_with fail
    go_ret
    exact ⟨rfl, rfl⟩
theorem in_q {ob cl cc : Nat} {cA : Option Addr} (h : W.cell? ⟨ob, 5, none⟩ = some (.slice cA cl cc)) {x : Int} {b : Bool} (hb : (decide (0 ≤ x) && decide (x < (cl : Int))) = b) : Calls Try.prog 75 #[.int .i64 x, .pointer (some ⟨ob, 0, none⟩)] W fun e w' => e = .returned (.bool b) ∧ w' = W := (in_c h hb).mono fun _ _ ⟨h1, h2⟩ => ⟨h1, h2.symm⟩
theorem out_c {ob cl cc fb : Nat} {cA : Option Addr} (h : W.cell? ⟨ob, 5, none⟩ = some (.slice cA cl cc)) (hf : W.cell? ⟨fb, 0, none⟩ = some (.func (.func 75) #[] #[.pointer (some ⟨ob, 0, none⟩)])) (x : Int) : Calls Try.prog 77 #[.int .i64 x, .pointer (some ⟨fb, 0, none⟩)] W (Quiet (.bool (!(decide (0 ≤ x) && decide (x < (cl : Int))))) W) := by
  obtain ⟨b, hb⟩ : ∃ b, (decide (0 ≤ x) && decide (x < (cl : Int))) = b := ⟨_, rfl⟩
  have HI := Go.Lib.hid (in_c h hb)
  rw [hb]
  clear h hb
  go_enter Try.func77, Try.ntmps77
  go_wp2_with fail
  refine HI.out.mono ?_
  rintro e w1 ⟨rfl, rfl⟩
  go_wp2_with fail
  go_ret
  exact ⟨rfl, Chg.refl _ _⟩
set_option maxRecDepth 100000 in
set_option maxHeartbeats 16000000 in
theorem may_c (h : ObIs W o a) : Calls Try.prog 38 #[obVal o a] W (Quiet (.bool (mayO o)) W) := by
  have HI := Go.Lib.hid h
  have HIM := Go.Lib.hid (fun W' (hW : Chg NoB W W') => imports_c h.nm (h.imps.chg hW fun _ _ => id) h.icap (fun x hx => (h.inm x hx).1))
  have hvv := h.vars
  unfold isI64 at hvv
  have htl : o.text.length ≤ 9223372036854775807 := by have := h.tcap.1; have := h.tcap.2; unfold maxLen at this; omega
  have hcl : o.code.length ≤ 9223372036854775807 := by have := h.ccap.1; have := h.ccap.2; unfold maxLen at this; omega
  have hel : o.ents.length ≤ 9223372036854775807 := by have := h.ecap.1; have := h.ecap.2; unfold maxLen at this; omega
  have hfl : o.fixs.length ≤ 9223372036854775807 := by have := h.fcap.1; have := h.fcap.2; unfold maxLen at this; omega
  have hil : o.imps.length ≤ 9223372036854775807 := by have := h.icap.1; have := h.icap.2; unfold maxLen at this; omega
  clear h
  unfold obVal
  have hbx := Blk.new W OT (obArr o a)
  have hal : Chg NoB W (W.alloc (Obj.cells (obArr o a) OT)) := (Chg.refl NoB W).alloc _
  unfold obArr at hbx hal ⊢
  have HB := Go.Lib.hid (And.intro hbx hal)
  clear hbx hal
  obtain ⟨tl, htn⟩ : ∃ n, o.text.length = n := ⟨_, rfl⟩
  obtain ⟨cl, hcn⟩ : ∃ n, o.code.length = n := ⟨_, rfl⟩
  obtain ⟨el, hen⟩ : ∃ n, o.ents.length = n := ⟨_, rfl⟩
  obtain ⟨fl, hfn⟩ : ∃ n, o.fixs.length = n := ⟨_, rfl⟩
  obtain ⟨il, hin⟩ : ∃ n, o.imps.length = n := ⟨_, rfl⟩
  obtain ⟨vv, hvn⟩ : ∃ n, o.vars = n := ⟨_, rfl⟩
  have HE : Hid (o.text.length = tl ∧ o.code.length = cl ∧ o.ents.length = el ∧ o.fixs.length = fl ∧ o.imps.length = il ∧ o.vars = vv) := Go.Lib.hid ⟨htn, hcn, hen, hfn, hin, hvn⟩
  rw [htn] at htl HB ⊢
  rw [hcn] at hcl HB ⊢
  rw [hen] at hel HB ⊢
  rw [hfn] at hfl HB ⊢
  rw [hin] at hil HB HIM ⊢
  rw [hvn] at hvv HB ⊢
  obtain ⟨fA, hfe⟩ : ∃ z, a.fA = z := ⟨_, rfl⟩
  rw [hfe] at HB ⊢
  have HFA := Go.Lib.hid hfe
  clear hfe
  clear htn hcn hen hfn hin hvn
  go_enter Try.func38, Try.ntmps38
  go_wp2_with fail
  refine (HIM.out _ HB.out.2).mono ?_
  rintro e w1 ⟨rfl, hc⟩
  have HC1 := Go.Lib.hid (HB.out.2.trans hc)
  have hb1 := HB.out.1.chg hc id
  have HB1 := Go.Lib.hid hb1
  clear hc HIM
  have b0 : w1.cell? ⟨W.heap.size, 0, none⟩ = some (.string o.name) := hb1.cell 0
  have b2 : w1.cell? ⟨W.heap.size, 2, none⟩ = some (.slice a.iA il a.ic) := hb1.cell 2
  have b3 : w1.cell? ⟨W.heap.size, 3, none⟩ = some (.int .i64 vv) := hb1.cell 3
  have b4 : w1.cell? ⟨W.heap.size, 4, none⟩ = some (.slice a.tA tl a.tc) := hb1.cell 4
  have b5 : w1.cell? ⟨W.heap.size, 5, none⟩ = some (.slice a.cA cl a.cc) := hb1.cell 5
  have b6 : w1.cell? ⟨W.heap.size, 6, none⟩ = some (.slice a.eA el a.ec) := hb1.cell 6
  have b7 : w1.cell? ⟨W.heap.size, 7, none⟩ = some (.slice fA fl a.fc) := hb1.cell 7
  clear hb1
  obtain ⟨ib, hib⟩ : ∃ b, impsOk o.name o.imps = b := ⟨_, rfl⟩
  rw [hib]
  have HIB := Go.Lib.hid hib
  clear hib
  have hm4 : (tl : Int).tmod 4 = ((tl % 4 : Nat) : Int) := by
    rw [Int.tmod_eq_emod_of_nonneg (by omega)]
    rfl
  by_cases hq1 : ib = false
  · subst hq1
    go_wp2_with fail
    go_ret
    exact ⟨by rw [mayO_no (fun hm => by have h1 := HIB.out; rw [hm.im] at h1; cases h1)]; rfl, HC1.out⟩
  · have hq1' : ib = true := by simpa using hq1
    subst hq1'
    clear hq1
    by_cases hq2 : vv < 0
    · have f2 : decide (vv < 0) = true := by simp; omega
      go_wp2_with fail
      go_ret
      exact ⟨by rw [mayO_no (fun hm => by have := hm.v0; rw [HE.out.2.2.2.2.2] at this; omega)]; rfl, HC1.out⟩
    · have f2 : decide (vv < 0) = false := by simp; omega
      by_cases hq4 : ¬ vv % 4 = 0
      · have f4 : (vv % 4 != 0) = true := by simp; omega
        go_wp2_with fail
        go_ret
        exact ⟨by rw [mayO_no (fun hm => by have := hm.v4; rw [HE.out.2.2.2.2.2] at this; omega)]; rfl, HC1.out⟩
      · have f4 : (vv % 4 != 0) = false := by simp; omega
        by_cases hq6 : ¬ tl % 4 = 0
        · have f6 : (((tl % 4 : Nat) : Int) != 0) = true := by simp; omega
          go_wp2_with fail
          go_ret
          exact ⟨by rw [mayO_no (fun hm => by have := hm.t4; rw [HE.out.1] at this; omega)]; rfl, HC1.out⟩
        · have f6 : (((tl % 4 : Nat) : Int) != 0) = false := by simp; omega
          by_cases hq5 : 8192 < tl
          · have f5 : decide (8192 < (tl : Int)) = true := by simp; omega
            go_wp2_with fail
            go_ret
            exact ⟨by rw [mayO_no (fun hm => by have := hm.tl; rw [HE.out.1] at this; omega)]; rfl, HC1.out⟩
          · have f5 : decide (8192 < (tl : Int)) = false := by simp; omega
            by_cases hq7 : 262144 < vv + tl
            · have f7 : decide (262144 - (tl : Int) < vv) = true := by simp; omega
              go_wp2_with fail
              go_ret
              exact ⟨by rw [mayO_no (fun hm => by have := hm.vt; rw [HE.out.2.2.2.2.2, HE.out.1] at this; omega)]; rfl, HC1.out⟩
            · have f7 : decide (262144 - (tl : Int) < vv) = false := by simp; omega
              by_cases hr1 : 16384 < cl
              · have f11 : decide (16384 < (cl : Int)) = true := by simp; omega
                go_wp2_with fail
                go_ret
                exact ⟨by rw [mayO_no (fun hm => by have := hm.cl; rw [HE.out.2.1] at this; omega)]; rfl, HC1.out⟩
              · have f11 : decide (16384 < (cl : Int)) = false := by simp; omega
                by_cases hr2 : el < 1
                · have f12 : decide ((el : Int) < 1) = true := by simp; omega
                  have g2' : el = 0 := by omega
                  go_wp2_with fail
                  go_ret
                  exact ⟨by rw [mayO_no (fun hm => by have := hm.e1; rw [HE.out.2.2.1] at this; omega)]; rfl, HC1.out⟩
                · have f12 : decide ((el : Int) < 1) = false := by simp; omega
                  by_cases hr3 : 201 < el
                  · have f13 : decide (201 < (el : Int)) = true := by simp; omega
                    go_wp2_with fail
                    go_ret
                    exact ⟨by rw [mayO_no (fun hm => by have := hm.e2; rw [HE.out.2.2.1] at this; omega)]; rfl, HC1.out⟩
                  · have f13 : decide (201 < (el : Int)) = false := by simp; omega
                    by_cases hr4 : 8192 < fl
                    · have f14 : decide (8192 < (fl : Int)) = true := by simp; omega
                      go_wp2_with fail
                      go_ret
                      exact ⟨by rw [mayO_no (fun hm => by have := hm.fl; rw [HE.out.2.2.2.1] at this; omega)]; rfl, HC1.out⟩
                    · have f14 : decide (8192 < (fl : Int)) = false := by simp; omega
                      have a6 := fun ob => keepQ ((Chg.refl NoB w1).alloc ob) b6
                      have a6s := fun (ob : Obj) (u : Value) => keepQ (((Chg.refl NoB w1).alloc ob).setCell (p := ⟨w1.heap.size, 0, none⟩) (fun h => absurd h (by simp)) u) b6
                      go_wp2_with fail
                      clear a6 a6s
                      have HMP := Go.Lib.hid (And.intro hq2 (And.intro hq4 (And.intro hq5 (And.intro hq6 (And.intro hq7 (And.intro hr1 (And.intro hr2 (And.intro hr3 hr4))))))))
                      clear f2 f4 f5 f6 f7 f11 f12 f13 f14 hm4 hq2 hq4 hq5 hq6 hq7 b0 b3 b4
                      have hel2 : el ≤ 201 := by omega
                      have hfl2 : fl ≤ 8192 := by omega
                      have hcl2 : cl ≤ 16384 := by omega
                      clear hr1 hr2 hr3 hr4 hel hfl hcl
                      have hfb := Blk.new w1 138 #[.func (.func 75) #[] #[.pointer (some ⟨W.heap.size, 0, none⟩)]]
                      have hfc : Chg NoB w1 (w1.alloc (Obj.cells #[.func (.func 75) #[] #[.pointer (some ⟨W.heap.size, 0, none⟩)]] 138)) := (Chg.refl NoB w1).alloc _
                      have hcon := conInt_c (W := w1.alloc (Obj.cells #[.func (.func 75) #[] #[.pointer (some ⟨W.heap.size, 0, none⟩)]] 138)) (l := o.ents) (A := a.eA) (c := a.ec) (p := fun y => !(decide (0 ≤ y) && decide (y < (cl : Int)))) (cap := .pointer (some ⟨w1.heap.size, 0, none⟩)) (HI.out.ents.chg (HC1.out.trans hfc) fun _ _ => id) (by rw [HE.out.2.2.1]; omega) (fun W' hW y => out_c (keepQ (hfc.trans hW) b5) (keepQ hW (hfb.cell 0)) y)
                      rw [HE.out.2.2.1] at hcon
                      refine hcon.mono ?_
                      clear hcon
                      rintro e w2 ⟨bb, rfl, hbb, hc2⟩
                      have HC2' := Go.Lib.hid (hfc.trans hc2)
                      have HFB := Go.Lib.hid (hfb.chg hc2 id)
                      clear hfc hfb hc2
                      cases bb with
                      | true =>
                        have HBB := Go.Lib.hid (hbb.1 rfl)
                        clear hbb
                        go_wp2_with fail
                        go_ret
                        refine ⟨?_, HC1.out.trans HC2'.out⟩
                        rw [mayO_no (fun hm => by
                          obtain ⟨y, hy, he⟩ := HBB.out
                          have := hm.en y hy
                          rw [HE.out.2.1] at this
                          rw [decide_eq_true this.1, decide_eq_true this.2] at he
                          cases he)]
                        rfl
                      | false =>
                        have HEN : Hid (∀ y ∈ o.ents, 0 ≤ y ∧ y < (cl : Int)) := Go.Lib.hid fun y hy => by
                          have hn : ¬ (!(decide (0 ≤ y) && decide (y < (cl : Int)))) = true := fun h => by
                            have := hbb.2 ⟨y, hy, h⟩
                            cases this
                          simpa using hn
                        clear hbb
                        have b7 := keepQ HC2'.out b7
                        go_wp2_with fail
                        clear b7
                        go_loopw [76] (fun v4 wr2 => ∃ k : Nat, k ≤ fl ∧ v4 = .int .i64 k ∧ (∀ (j : Nat) y, j < k → o.fixs[j]? = some y → FixP o.imps.length o.code.length o.fixs j y) ∧ Chg NoB w2 wr2) (fun v4 _ => fl - (intOf v4).toNat)
                        case atStart => exact ⟨0, Nat.zero_le _, rfl, fun j y h => by omega, Chg.refl _ _⟩
                        case round =>
                          clear b2 b5 b6
                          obtain ⟨i, hi, rfl, hun, hc⟩ := hrel
                          have HU := Go.Lib.hid hun
                          have HC2 := Go.Lib.hid hc
                          have HC3 := Go.Lib.hid ((HC1.out.trans HC2'.out).trans hc)
                          have hc1w := HC2'.out.trans hc
                          have b2 : wr.cell? ⟨W.heap.size, 2, none⟩ = some (.slice a.iA il a.ic) := (HB1.out.chg hc1w id).cell 2
                          have b5 : wr.cell? ⟨W.heap.size, 5, none⟩ = some (.slice a.cA cl a.cc) := (HB1.out.chg hc1w id).cell 5
                          have b7 : wr.cell? ⟨W.heap.size, 7, none⟩ = some (.slice fA fl a.fc) := (HB1.out.chg hc1w id).cell 7
                          have fb0 : wr.cell? ⟨w1.heap.size, 0, none⟩ = some (.func (.func 75) #[] #[.pointer (some ⟨W.heap.size, 0, none⟩)]) := (HFB.out.chg hc id).cell 0
                          clear hun hc hc1w
                          by_cases hlt : i < fl
                          · obtain ⟨fb, fp, hfA, hcell⟩ := HI.out.fix (by rw [HE.out.2.2.2.1]; omega)
                            obtain ⟨⟨at_, md, en⟩, hx⟩ : ∃ x, o.fixs[i]? = some x := ⟨_, List.getElem?_eq_getElem (by rw [HE.out.2.2.2.1]; exact hlt)⟩
                            obtain ⟨hx0, hx1, hx2⟩ := hcell i _ hx wr HC3.out
                            simp only at hx0 hx1 hx2
                            have HX := Go.Lib.hid hx
                            rw [HFA.out] at hfA
                            subst hfA
                            obtain ⟨xb1, xb2, xb3⟩ := HI.out.fn _ (List.mem_of_getElem? hx)
                            unfold isI64 at xb1 xb2 xb3
                            simp only at xb1 xb2 xb3
                            obtain ⟨ls, hls⟩ : ∃ z, min en 1 = z := ⟨_, rfl⟩
                            have HLS := Go.Lib.hid hls
                            clear hx
                            go_upto_region 11 with fail
                            clear hx0 hx1 hx2 hls
                            have hb5 := Blk.new wr FT #[.int .i64 at_, .int .i64 md, .int .i64 en]
                            have hc5 : Chg NoB wr (wr.alloc (Obj.cells #[.int .i64 at_, .int .i64 md, .int .i64 en] FT)) := (Chg.refl NoB wr).alloc _
                            have b2 := keepQ hc5 b2
                            have b5 := keepQ hc5 b5
                            have b7 := keepQ hc5 b7
                            have fb0 := keepQ hc5 fb0
                            generalize wr.alloc (Obj.cells #[.int .i64 at_, .int .i64 md, .int .i64 en] FT) = w5 at *
                            have d0 : w5.cell? ⟨wr.heap.size, 0, none⟩ = some (.int .i64 at_) := hb5.cell 0
                            have d1 : w5.cell? ⟨wr.heap.size, 1, none⟩ = some (.int .i64 md) := hb5.cell 1
                            have d2 : w5.cell? ⟨wr.heap.size, 2, none⟩ = some (.int .i64 en) := hb5.cell 2
                            have HC5 := Go.Lib.hid (And.intro (HC2.out.trans hc5) hc5)
                            have HC6 := Go.Lib.hid (HC3.out.trans hc5)
                            clear hb5 hc5
                            go_cut [6] from 81 to 83 (fun v6 wx => v6 = .int .i64 ls ∧ wx = w5)
                            case first =>
                              go_wp2_with fail
                              all_goals
                                go_meet
                                refine ⟨?_, rfl⟩
                                have := HLS.out
                                congr 1
                                omega
                            case rest =>
                              obtain ⟨rfl, hwx⟩ := hcut
                              obtain rfl := hwx.symm
                              clear hwx
                              go_wp2_with fail
                              by_cases hs1 : en < 0
                              · have k1 : decide (en < 0) = true := by simp; omega
                                clear hcell
                                go_quiet (fail)
                                go_wp2_with fail
                                go_ret
                                exact ⟨by rw [mayO_no (fun hm => by have h1 := hm.fx i _ HX.out; have h2 := HE.out.2.1; have h3 := HE.out.2.2.2.2.1; rw [h2, h3] at h1; have h4 := h1.e0; simp only at h4; omega)]; rfl, HC6.out.drewN _⟩
                              · have k1 : decide (en < 0) = false := by simp; omega
                                by_cases hs2 : 200 < en
                                · have k2 : decide (200 < en) = true := by simp; omega
                                  clear hcell
                                  go_quiet (fail)
                                  go_wp2_with fail
                                  go_ret
                                  exact ⟨by rw [mayO_no (fun hm => by have h1 := hm.fx i _ HX.out; have h2 := HE.out.2.1; have h3 := HE.out.2.2.2.2.1; rw [h2, h3] at h1; have h4 := h1.e2; simp only at h4; omega)]; rfl, HC6.out.drewN _⟩
                                · have k2 : decide (200 < en) = false := by simp; omega
                                  by_cases hs3 : md < ls
                                  · have k3 : decide (md < ls) = true := by simp; omega
                                    clear hcell
                                    go_quiet (fail)
                                    go_wp2_with fail
                                    go_ret
                                    exact ⟨by rw [mayO_no (fun hm => by have h1 := hm.fx i _ HX.out; have h2 := HE.out.2.1; have h3 := HE.out.2.2.2.2.1; rw [h2, h3] at h1; have h4 := h1.m1; simp only at h4; have h5 := HLS.out; omega)]; rfl, HC6.out.drewN _⟩
                                  · have k3 : decide (md < ls) = false := by simp; omega
                                    by_cases hs4 : il < md
                                    · have k4 : decide ((il : Int) < md) = true := by simp; omega
                                      clear hcell
                                      go_quiet (fail)
                                      go_wp2_with fail
                                      go_ret
                                      exact ⟨by rw [mayO_no (fun hm => by have h1 := hm.fx i _ HX.out; have h2 := HE.out.2.1; have h3 := HE.out.2.2.2.2.1; rw [h2, h3] at h1; have h4 := h1.m2; simp only at h4; omega)]; rfl, HC6.out.drewN _⟩
                                    · have k4 : decide ((il : Int) < md) = false := by simp; omega
                                      by_cases hs5 : (decide (0 ≤ at_) && decide (at_ < (cl : Int))) = false
                                      · have hin1 := hs5
                                        clear hcell
                                        go_quiet (first | (go_at_call 75; with_reducible exact Calls.quiet_of_same (in_q (keepQ ((Chg.refl NoB w5).drewN _) b5) hin1)))
                                        go_wp2_with fail
                                        go_ret
                                        exact ⟨by rw [mayO_no (fun hm => by have h1 := hm.fx i _ HX.out; have h2 := HE.out.2.1; have h3 := HE.out.2.2.2.2.1; rw [h2, h3] at h1; have h4 := h1.a0; have h5 := h1.a1; simp only at h4 h5; rw [decide_eq_true h4, decide_eq_true h5] at hs5; cases hs5)]; rfl, HC6.out.drewN _⟩
                                      · have hin1 : (decide (0 ≤ at_) && decide (at_ < (cl : Int))) = true := by simpa using hs5
                                        have ha0 : 0 ≤ at_ := by simp at hin1; exact hin1.1
                                        have ha1 : at_ < cl := by simp at hin1; exact hin1.2
                                        have HLS2 := HLS.out
                                        by_cases he : en = 0
                                        · have hw1 : IntKind.i64.wrap (at_ + 1) = at_ + 1 := by rw [IntKind.wrap_i64]; omega
                                          have k6 : (en == 0) = true := by simp; omega
                                          by_cases hs6 : (decide (0 ≤ at_ + 1) && decide (at_ + 1 < (cl : Int))) = false
                                          · have hin2 := hs6
                                            clear hcell
                                            go_quiet (first | (go_at_call 75; with_reducible exact Calls.quiet_of_same (in_q (keepQ ((Chg.refl NoB w5).drewN _) b5) hin1)) | (go_at_call 75; with_reducible exact Calls.quiet_of_same (in_q (keepQ ((Chg.refl NoB w5).drewN _) b5) hin2)))
                                            go_wp2_with fail
                                            go_ret
                                            exact ⟨by rw [mayO_no (fun hm => by have h1 := hm.fx i _ HX.out; have h2 := HE.out.2.1; have h3 := HE.out.2.2.2.2.1; rw [h2, h3] at h1; have h4 := h1.a2 he; simp only at h4; rw [decide_eq_true (show 0 ≤ at_ + 1 by omega), decide_eq_true h4] at hs6; cases hs6)]; rfl, HC6.out.drewN _⟩
                                          · have hin2 : (decide (0 ≤ at_ + 1) && decide (at_ + 1 < (cl : Int))) = true := by simpa using hs6
                                            have ha2 : at_ + 1 < cl := by simp at hin2; exact hin2.2
                                            have k7 : (en == 0) = true := by simp; omega
                                            rcases Nat.eq_zero_or_pos i with hi0 | hi0
                                            · have HFP : Hid (FixP o.imps.length o.code.length o.fixs i (at_, md, en)) := Go.Lib.hid (by rw [HE.out.2.1, HE.out.2.2.2.2.1]; exact ⟨by show 0 ≤ en; omega, by show en ≤ 200; omega, by show min en 1 ≤ md; omega, by show md ≤ il; omega, by show 0 ≤ at_; omega, by show at_ < cl; omega, by show en = 0 → at_ + 1 < cl; omega, fun j g hj _ => by omega⟩)
                                              have k8 : decide (0 < i) = false := by simp; omega
                                              have k9 : decide (0 < (i : Int)) = false := by simp; omega
                                              clear hcell
                                              go_quiet (first | (go_at_call 75; with_reducible exact Calls.quiet_of_same (in_q (keepQ ((Chg.refl NoB w5).drewN _) b5) hin1)) | (go_at_call 75; with_reducible exact Calls.quiet_of_same (in_q (keepQ ((Chg.refl NoB w5).drewN _) b5) hin2)))
                                              go_wp2_with fail
                                              go_roundw
                                              case rel => exact ⟨i + 1, by omega, by go_num, fun j y hj hy => by
                                                rcases Nat.lt_or_ge j i with h | h
                                                · exact HU.out j y h hy
                                                · obtain rfl : j = i := by omega
                                                  rw [HX.out] at hy
                                                  injection hy with hy
                                                  subst hy
                                                  exact HFP.out, HC5.out.1.drewN _⟩
                                              case measure => simp [intOf]; omega
                                            · obtain ⟨y, hy⟩ : ∃ y, o.fixs[i - 1]? = some y := ⟨_, List.getElem?_eq_getElem (by rw [HE.out.2.2.2.1]; omega)⟩
                                              have hy0 := keepQ HC5.out.2 ((hcell (i - 1) y hy wr HC3.out).1)
                                              obtain ⟨ya, hya⟩ : ∃ z, y.1 = z := ⟨_, rfl⟩
                                              rw [hya] at hy0
                                              have HY := Go.Lib.hid (And.intro hy hya)
                                              have hi1 : IntKind.i64.wrap ((i : Int) - 1) = ((i - 1 : Nat) : Int) := by rw [IntKind.wrap_i64]; omega
                                              have hi2 : i - 1 < fl := by omega
                                              clear hy hya hcell
                                              by_cases hle : at_ ≤ ya
                                              · have k10 : decide (at_ ≤ ya) = true := by simp; omega
                                                have k8 : decide (0 < i) = true := by simp; omega
                                                have k9 : decide (0 < (i : Int)) = true := by simp; omega
                                                go_quiet (first | (go_at_call 75; with_reducible exact Calls.quiet_of_same (in_q (keepQ ((Chg.refl NoB w5).drewN _) b5) hin1)) | (go_at_call 75; with_reducible exact Calls.quiet_of_same (in_q (keepQ ((Chg.refl NoB w5).drewN _) b5) hin2)))
                                                go_wp2_with fail
                                                go_ret
                                                exact ⟨by rw [mayO_no (fun hm => by have h1 := hm.fx i _ HX.out; have h2 := HE.out.2.1; have h3 := HE.out.2.2.2.2.1; rw [h2, h3] at h1; have h4 := h1.up (i - 1) y (by omega) HY.out.1; rw [HY.out.2] at h4; simp only at h4; omega)]; rfl, HC6.out.drewN _⟩
                                              · have k10 : decide (at_ ≤ ya) = false := by simp; omega
                                                have HFP : Hid (FixP o.imps.length o.code.length o.fixs i (at_, md, en)) := Go.Lib.hid (by rw [HE.out.2.1, HE.out.2.2.2.2.1]; exact ⟨by show 0 ≤ en; omega, by show en ≤ 200; omega, by show min en 1 ≤ md; omega, by show md ≤ il; omega, by show 0 ≤ at_; omega, by show at_ < cl; omega, by show en = 0 → at_ + 1 < cl; omega, fun j g hj hg => by
                                                      obtain rfl : j = i - 1 := by omega
                                                      rw [HY.out.1] at hg
                                                      injection hg with hg
                                                      subst hg
                                                      show y.1 < at_
                                                      rw [HY.out.2]
                                                      omega⟩)
                                                have k8 : decide (0 < i) = true := by simp; omega
                                                have k9 : decide (0 < (i : Int)) = true := by simp; omega
                                                go_quiet (first | (go_at_call 75; with_reducible exact Calls.quiet_of_same (in_q (keepQ ((Chg.refl NoB w5).drewN _) b5) hin1)) | (go_at_call 75; with_reducible exact Calls.quiet_of_same (in_q (keepQ ((Chg.refl NoB w5).drewN _) b5) hin2)))
                                                go_wp2_with fail
                                                go_roundw
                                                case rel => exact ⟨i + 1, by omega, by go_num, fun j y hj hy => by
                                                  rcases Nat.lt_or_ge j i with h | h
                                                  · exact HU.out j y h hy
                                                  · obtain rfl : j = i := by omega
                                                    rw [HX.out] at hy
                                                    injection hy with hy
                                                    subst hy
                                                    exact HFP.out, HC5.out.1.drewN _⟩
                                                case measure => simp [intOf]; omega
                                        · have k7 : (en == 0) = false := by simp; omega
                                          rcases Nat.eq_zero_or_pos i with hi0 | hi0
                                          · have HFP : Hid (FixP o.imps.length o.code.length o.fixs i (at_, md, en)) := Go.Lib.hid (by rw [HE.out.2.1, HE.out.2.2.2.2.1]; exact ⟨by show 0 ≤ en; omega, by show en ≤ 200; omega, by show min en 1 ≤ md; omega, by show md ≤ il; omega, by show 0 ≤ at_; omega, by show at_ < cl; omega, by show en = 0 → at_ + 1 < cl; omega, fun j g hj _ => by omega⟩)
                                            have k8 : decide (0 < i) = false := by simp; omega
                                            have k9 : decide (0 < (i : Int)) = false := by simp; omega
                                            clear hcell
                                            go_quiet (first | (go_at_call 75; with_reducible exact Calls.quiet_of_same (in_q (keepQ ((Chg.refl NoB w5).drewN _) b5) hin1)))
                                            go_wp2_with fail
                                            go_roundw
                                            case rel => exact ⟨i + 1, by omega, by go_num, fun j y hj hy => by
                                              rcases Nat.lt_or_ge j i with h | h
                                              · exact HU.out j y h hy
                                              · obtain rfl : j = i := by omega
                                                rw [HX.out] at hy
                                                injection hy with hy
                                                subst hy
                                                exact HFP.out, HC5.out.1.drewN _⟩
                                            case measure => simp [intOf]; omega
                                          · obtain ⟨y, hy⟩ : ∃ y, o.fixs[i - 1]? = some y := ⟨_, List.getElem?_eq_getElem (by rw [HE.out.2.2.2.1]; omega)⟩
                                            have hy0 := keepQ HC5.out.2 ((hcell (i - 1) y hy wr HC3.out).1)
                                            obtain ⟨ya, hya⟩ : ∃ z, y.1 = z := ⟨_, rfl⟩
                                            rw [hya] at hy0
                                            have HY := Go.Lib.hid (And.intro hy hya)
                                            have hi1 : IntKind.i64.wrap ((i : Int) - 1) = ((i - 1 : Nat) : Int) := by rw [IntKind.wrap_i64]; omega
                                            have hi2 : i - 1 < fl := by omega
                                            clear hy hya hcell
                                            by_cases hle : at_ ≤ ya
                                            · have k10 : decide (at_ ≤ ya) = true := by simp; omega
                                              have k8 : decide (0 < i) = true := by simp; omega
                                              have k9 : decide (0 < (i : Int)) = true := by simp; omega
                                              go_quiet (first | (go_at_call 75; with_reducible exact Calls.quiet_of_same (in_q (keepQ ((Chg.refl NoB w5).drewN _) b5) hin1)))
                                              go_wp2_with fail
                                              go_ret
                                              exact ⟨by rw [mayO_no (fun hm => by have h1 := hm.fx i _ HX.out; have h2 := HE.out.2.1; have h3 := HE.out.2.2.2.2.1; rw [h2, h3] at h1; have h4 := h1.up (i - 1) y (by omega) HY.out.1; rw [HY.out.2] at h4; simp only at h4; omega)]; rfl, HC6.out.drewN _⟩
                                            · have k10 : decide (at_ ≤ ya) = false := by simp; omega
                                              have HFP : Hid (FixP o.imps.length o.code.length o.fixs i (at_, md, en)) := Go.Lib.hid (by rw [HE.out.2.1, HE.out.2.2.2.2.1]; exact ⟨by show 0 ≤ en; omega, by show en ≤ 200; omega, by show min en 1 ≤ md; omega, by show md ≤ il; omega, by show 0 ≤ at_; omega, by show at_ < cl; omega, by show en = 0 → at_ + 1 < cl; omega, fun j g hj hg => by
                                                    obtain rfl : j = i - 1 := by omega
                                                    rw [HY.out.1] at hg
                                                    injection hg with hg
                                                    subst hg
                                                    show y.1 < at_
                                                    rw [HY.out.2]
                                                    omega⟩)
                                              have k8 : decide (0 < i) = true := by simp; omega
                                              have k9 : decide (0 < (i : Int)) = true := by simp; omega
                                              go_quiet (first | (go_at_call 75; with_reducible exact Calls.quiet_of_same (in_q (keepQ ((Chg.refl NoB w5).drewN _) b5) hin1)))
                                              go_wp2_with fail
                                              go_roundw
                                              case rel => exact ⟨i + 1, by omega, by go_num, fun j y hj hy => by
                                                rcases Nat.lt_or_ge j i with h | h
                                                · exact HU.out j y h hy
                                                · obtain rfl : j = i := by omega
                                                  rw [HX.out] at hy
                                                  injection hy with hy
                                                  subst hy
                                                  exact HFP.out, HC5.out.1.drewN _⟩
                                              case measure => simp [intOf]; omega
                          · obtain rfl : i = fl := by omega
                            have HM : Hid (mayO o = true) := Go.Lib.hid (mayO_iff.2 (by
                              obtain ⟨h1, h2, h3, h4, h5, h6⟩ := HE.out
                              obtain ⟨q2, q4, q5, q6, q7, r1, r2, r3, r4⟩ := HMP.out
                              exact ⟨HIB.out, by omega, by omega, by omega, by omega, by omega, by omega, by omega, by omega, by omega, fun x hx => by
                                have := HEN.out x hx
                                rw [h2]; exact this, fun k f hf => HU.out k f (by have := (List.getElem?_eq_some_iff.1 hf).1; omega) hf⟩))
                            go_wp2_with fail
                            go_ret
                            exact ⟨by rw [HM.out]; rfl, HC3.out⟩
end
end Go.Proofs.Yteleglkoagnmcaa
