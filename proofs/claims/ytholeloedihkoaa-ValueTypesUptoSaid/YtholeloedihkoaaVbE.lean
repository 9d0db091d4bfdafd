/- What is proved: the law's at: the variable at a path, or an error. Conditions: the memory holds the variable, its shape, the path. -/
import Derived.Test.YtholeloedihkoaaVbD
set_option linter.unusedSimpArgs false
set_option linter.unusedVariables false
namespace Go.Proofs.Ytholeloedihkoaa
open Go Go.RowKit
section
variable {C : Int → Option Addr → Prop} {w w' W : World}
set_option maxHeartbeats 8000000 in
set_option maxRecDepth 20000 in
theorem at_c {w0 : World} {b : Nat} {t : Ty} {A : Option Addr} {c : Nat} {ks : VF} (hv0 : VsAt C w0 0 (.cons b t A c ks .nil)) (h0 : Chg NoB w0 w) (hs : IsS w t.s t.ns t.ks) (he : errOf t.s t.ns t.ks = 0) {pA : Option Addr} {pn pc : Nat} {l : List Int} (hp : CellsAt w pA (l.map (.int .i64))) (hl : l.length = pn) (hpn : pn ≤ maxLen) (hin : ∀ x ∈ l, -9223372036854775808 ≤ x ∧ x ≤ 9223372036854775807) :
    Calls Try.prog 26 #[ptr b, t.s.val, .slice pA pn pc] w (AtPost C w0 (.cons b t A c ks .nil) w) := by
  have hv := hv0.quiet h0
  have HP := Go.Lib.hid hp
  have HL := Go.Lib.hid hl
  have HIN := Go.Lib.hid hin
  unfold maxLen at hpn
  have hst : AtI C w0 w (.cons b t A c ks .nil) b t ((w.alloc (Obj.cells (shArr t.s) ShT)).alloc (Obj.cells #[.int .i64 0, .int .i64 0, .slice none 0 0, .slice none 0 0] ShT)) :=
    ⟨((Chg.refl NoB w).alloc _).alloc _, ⟨A, c, ks, hv, fun _ h => h, hv0⟩, hs, he, (Blk.new _ _ _).alloc _, Blk.at_ _ _ _ _ (by simp)⟩
  have HST := Go.Lib.hid hst
  generalize (VF.cons b t A c ks .nil) = v0 at *
  clear hp hl hin hst hv hs he hv0 h0
  unfold ptr Sv.val
  unfold shArr at HST
  go_enter Try.func26, Try.ntmps26
  go_wp2_with fail
  go_loopw [0, 9, 10, 11] (fun v0' v9 _ _ wr => ∃ (i : Nat) (b : Nat) (t : Ty), i ≤ pn ∧ v9 = .int .i64 i ∧ v0' = .pointer (some ⟨b, 0, none⟩) ∧ AtI C w0 w v0 b t wr) (fun _ v9 _ _ _ => pn - (intOf v9).toNat)
  case atStart => exact ⟨0, b, t, Nat.zero_le _, rfl, rfl, HST.out⟩
  case round =>
    clear HST
    obtain ⟨i, b, t, hi, rfl, rfl, hI⟩ := hrel
    have HI := Go.Lib.hid hI
    have b0 : wr.cell? ⟨w.heap.size, 0, none⟩ = some (.int .i64 t.s.k) := hI.box.cell 0
    have b1 : wr.cell? ⟨w.heap.size, 1, none⟩ = some (.int .i64 t.s.n) := hI.box.cell 1
    have b2 : wr.cell? ⟨w.heap.size, 2, none⟩ = some (.slice t.s.nA t.s.nl t.s.nc) := hI.box.cell 2
    have b3 : wr.cell? ⟨w.heap.size, 3, none⟩ = some (.slice t.s.pA t.s.pl t.s.pc) := hI.box.cell 3
    have fb0 := hI.box.frozen 0
    have fb1 := hI.box.frozen 1
    have fb2 := hI.box.frozen 2
    have fb3 := hI.box.frozen 3
    have o0 : wr.cell? ⟨w.heap.size + 1, 0, none⟩ = some (.int .i64 0) := hI.out.cell 0
    have o1 : wr.cell? ⟨w.heap.size + 1, 1, none⟩ = some (.int .i64 0) := hI.out.cell 1
    have o2 : wr.cell? ⟨w.heap.size + 1, 2, none⟩ = some (.slice none 0 0) := hI.out.cell 2
    have o3 : wr.cell? ⟨w.heap.size + 1, 3, none⟩ = some (.slice none 0 0) := hI.out.cell 3
    have fo0 := hI.out.frozen 0
    have fo1 := hI.out.frozen 1
    have fo2 := hI.out.frozen 2
    have fo3 := hI.out.frozen 3
    obtain ⟨Ak, ck, kk, hv, hf⟩ := hI.at_
    obtain ⟨xw, xp, hvc, _, _⟩ := hv.vc
    have HVC := Go.Lib.hid hvc
    obtain ⟨ts, hok, hks⟩ := hv.kids_len
    have HOK := Go.Lib.hid (And.intro hok hks)
    have HV := Go.Lib.hid (And.intro hv hf)
    have hnl := hI.sh.ok.nl
    have hple := hI.sh.len
    have hnc := hI.sh.ok.nc
    have hppc := hI.sh.ok.pc
    have hsb : w.heap.size + 1 < wr.heap.size := hI.out.lt
    unfold maxLen at hnc hppc
    have HNL := Go.Lib.hid (And.intro hnl hple)
    clear hI hv hf hvc hok hks hnl hple
    by_cases hlt : i < pn
    · obtain ⟨p, hp⟩ : ∃ p, l[i]? = some p := ⟨_, List.getElem?_eq_getElem (by have := HL.out; omega)⟩
      obtain ⟨ad, hAd, hcell⟩ := HP.out (by have := HL.out; simp; omega)
      have HPC : Hid (∀ W, Chg NoB w W → W.cell? (ad.add i) = some (.int .i64 p)) := Go.Lib.hid fun W hW => keepC hW (hcell i (.int .i64 p) (by rw [List.getElem?_map, hp]; rfl))
      have hpc := HPC.out wr HI.out.chg
      have hpb := HIN.out p (List.mem_of_getElem? hp)
      subst hAd
      clear hcell hp
      by_cases hk8 : t.s.k = 8
      · have hT8 : t.T.kind = 8 := by have := HOK.out.1.2.1; omega
        rw [hk8] at b0
        have HNM := Go.Lib.hid (rec_names HOK.out.1 hT8 HI.out.er)
        have HNP : Hid (t.s.nl = t.s.pl) := Go.Lib.hid (by have := HNM.out.2.2.2; have := HNL.out; omega)
        by_cases hbad : p < 0 ∨ (t.s.nl : Int) ≤ p
        · have hms : noneS ∉ t.T.fs.map (·.name) := by
            rw [HNM.out.1]
            exact fun hm => by have := HNM.out.2.2.1 _ hm; rw [noneS_no] at this; cases this
          have HFE : Hid (∀ W, Chg NoB w W → Calls Try.prog 20 #[.pointer (some ⟨b, 0, none⟩), .string ⟨#[110, 111, 110, 101, 32, 111, 102, 32, 116, 104, 101, 115, 101]⟩] W fun e w' => e = .returned (.tuple #[.pointer none, .int .i64 6]) ∧ W = w') := Go.Lib.hid fun W hW => field_err (HVC.out.quiet hW) (by decide) (find_miss (HOK.out.1.1.quiet hW) hT8 noneS hms)
          clear hms
          by_cases hp0 : p < 0
          · go_wp2_with fail
            refine regionT 14 (fun V' => Chg NoB (wr) V') (by kernel_rfl) (by decide) ((Chg.refl NoB wr).drew) (fun inv hHeld => ?_)
            refine takeT (i := 0) (t := 22) (v := ?v0y13) rfl (by kernel_rfl) (by kernel_rfl) (by kernel_rfl) (fun _ _ _ h => h) (by kernel_rfl) (by kernel_rfl) (by decide) (by decide) rfl (Or.inl ⟨by rfl, ?h0y13⟩) inv hHeld ?r0y13
            case h0y13 => (intro V' hSw; clear hSw; go_simp; try with_reducible rfl)
            clear inv
            intro inv
            try simp only [List.setIfInBounds_toArray, List.set_cons_zero, List.set_cons_succ]
            refine takeT (i := 1) (t := 23) (v := ?v1y14) rfl (by kernel_rfl) (by kernel_rfl) (by kernel_rfl) (fun _ _ _ h => h) (by kernel_rfl) (by kernel_rfl) (by decide) (by decide) rfl (Or.inl ⟨by rfl, ?h1y14⟩) inv hHeld ?r1y14
            case h1y14 => (intro V' hSw; clear hSw; go_simp; try with_reducible rfl)
            clear inv
            intro inv
            try simp only [List.setIfInBounds_toArray, List.set_cons_zero, List.set_cons_succ]
            refine takeT (i := 2) (t := 24) (v := ?v2y15) rfl (by kernel_rfl) (by kernel_rfl) (by kernel_rfl) (fun _ _ _ h => h) (by kernel_rfl) (by kernel_rfl) (by decide) (by decide) rfl (Or.inl ⟨by rfl, ?h2y15⟩) inv hHeld ?r2y15
            case h2y15 => (intro V' hSw; clear hSw; go_simp; try with_reducible rfl)
            clear inv
            intro inv
            try simp only [List.setIfInBounds_toArray, List.set_cons_zero, List.set_cons_succ]
            refine takeT (i := 3) (t := 25) (v := ?v3y16) rfl (by kernel_rfl) (by kernel_rfl) (by kernel_rfl) (fun _ _ _ h => h) (by kernel_rfl) (by kernel_rfl) (by decide) (by decide) rfl (Or.inl ⟨by rfl, ?h3y16⟩) inv hHeld ?r3y16
            case h3y16 => (intro V' hSw; have hq := keepC hSw hpc; clear hSw; go_simp; try with_reducible rfl)
            clear inv
            intro inv
            try simp only [List.setIfInBounds_toArray, List.set_cons_zero, List.set_cons_succ]
            refine takeT (i := 4) (t := 26) (v := ?v4y17) rfl (by kernel_rfl) (by kernel_rfl) (by kernel_rfl) (fun _ _ _ h => h) (by kernel_rfl) (by kernel_rfl) (by decide) (by decide) rfl (Or.inl ⟨by rfl, ?h4y17⟩) inv hHeld ?r4y17
            case h4y17 => (intro V' hSw; clear hSw; go_simp; try with_reducible rfl)
            clear inv
            intro inv
            try simp only [List.setIfInBounds_toArray, List.set_cons_zero, List.set_cons_succ]
            refine takeT (i := 5) (t := 27) (v := ?v5y18) rfl (by kernel_rfl) (by kernel_rfl) (by kernel_rfl) (fun _ _ _ h => h) (by kernel_rfl) (by kernel_rfl) (by decide) (by decide) rfl (Or.inl ⟨by rfl, ?h5y18⟩) inv hHeld ?r5y18
            case h5y18 => (intro V' hSw; clear hSw; go_simp; try with_reducible rfl)
            clear inv
            intro inv
            try simp only [List.setIfInBounds_toArray, List.set_cons_zero, List.set_cons_succ]
            refine takeT (i := 6) (t := 28) (v := undef) rfl (by kernel_rfl) (by kernel_rfl) (by kernel_rfl) (fun _ _ _ h => h) (by kernel_rfl) (by kernel_rfl) (by decide) (by decide) rfl (Or.inr ⟨by rfl, rfl⟩) inv hHeld ?r6y19
            clear inv
            intro inv
            try simp only [List.setIfInBounds_toArray, List.set_cons_zero, List.set_cons_succ]
            refine takeT (i := 7) (t := 29) (v := undef) rfl (by kernel_rfl) (by kernel_rfl) (by kernel_rfl) (fun _ _ _ h => h) (by kernel_rfl) (by kernel_rfl) (by decide) (by decide) rfl (Or.inr ⟨by rfl, rfl⟩) inv hHeld ?r7y20
            clear inv
            intro inv
            try simp only [List.setIfInBounds_toArray, List.set_cons_zero, List.set_cons_succ]
            refine takeT (i := 8) (t := 30) (v := undef) rfl (by kernel_rfl) (by kernel_rfl) (by kernel_rfl) (fun _ _ _ h => h) (by kernel_rfl) (by kernel_rfl) (by decide) (by decide) rfl (Or.inr ⟨by rfl, rfl⟩) inv hHeld ?r8y21
            clear inv
            intro inv
            try simp only [List.setIfInBounds_toArray, List.set_cons_zero, List.set_cons_succ]
            refine takeT (i := 9) (t := 31) (v := undef) rfl (by kernel_rfl) (by kernel_rfl) (by kernel_rfl) (fun _ _ _ h => h) (by kernel_rfl) (by kernel_rfl) (by decide) (by decide) rfl (Or.inr ⟨by rfl, rfl⟩) inv hHeld ?r9y22
            clear inv
            intro inv
            try simp only [List.setIfInBounds_toArray, List.set_cons_zero, List.set_cons_succ]
            refine takeT (i := 10) (t := 32) (v := undef) rfl (by kernel_rfl) (by kernel_rfl) (by kernel_rfl) (fun _ _ _ h => h) (by kernel_rfl) (by kernel_rfl) (by decide) (by decide) rfl (Or.inr ⟨by rfl, rfl⟩) inv hHeld ?r10y23
            clear inv
            intro inv
            try simp only [List.setIfInBounds_toArray, List.set_cons_zero, List.set_cons_succ]
            refine takeT (i := 11) (t := 33) (v := undef) rfl (by kernel_rfl) (by kernel_rfl) (by kernel_rfl) (fun _ _ _ h => h) (by kernel_rfl) (by kernel_rfl) (by decide) (by decide) rfl (Or.inr ⟨by rfl, rfl⟩) inv hHeld ?r11y24
            clear inv
            intro inv
            try simp only [List.setIfInBounds_toArray, List.set_cons_zero, List.set_cons_succ]
            refine takeT (i := 12) (t := 34) (v := undef) rfl (by kernel_rfl) (by kernel_rfl) (by kernel_rfl) (fun _ _ _ h => h) (by kernel_rfl) (by kernel_rfl) (by decide) (by decide) rfl (Or.inr ⟨by rfl, rfl⟩) inv hHeld ?r12y25
            clear inv
            intro inv
            try simp only [List.setIfInBounds_toArray, List.set_cons_zero, List.set_cons_succ]
            refine takeT (i := 13) (t := 35) (v := undef) rfl (by kernel_rfl) (by kernel_rfl) (by kernel_rfl) (fun _ _ _ h => h) (by kernel_rfl) (by kernel_rfl) (by decide) (by decide) rfl (Or.inr ⟨by rfl, rfl⟩) inv hHeld ?r13y26
            clear inv
            intro inv
            try simp only [List.setIfInBounds_toArray, List.set_cons_zero, List.set_cons_succ]
            refine lastV (i := 14) (t := 36) (v := .bool true) (w' := wr.drew) rfl (by kernel_rfl) rfl (by rfl) ?hx27 (by decide) (by kernel_rfl) ?_
            case hx27 => (go_simp; first | done | exact hbd | omega)
            clear inv
            have hIx := HI.out.quiet (Chg.refl NoB wr).drew
            clear b0 b1 b2 b3 fb0 fb1 fb2 fb3 o0 o1 o2 o3 fo0 fo1 fo2 fo3
            generalize wr.drew = wx at *
            have HIx := Go.Lib.hid hIx
            clear hIx
            have b0 : wx.cell? ⟨w.heap.size, 0, none⟩ = some (.int .i64 8) := by rw [← hk8]; exact HIx.out.box.cell 0
            have b1 : wx.cell? ⟨w.heap.size, 1, none⟩ = some (.int .i64 t.s.n) := HIx.out.box.cell 1
            have b2 : wx.cell? ⟨w.heap.size, 2, none⟩ = some (.slice t.s.nA t.s.nl t.s.nc) := HIx.out.box.cell 2
            have b3 : wx.cell? ⟨w.heap.size, 3, none⟩ = some (.slice t.s.pA t.s.pl t.s.pc) := HIx.out.box.cell 3
            have fb0 := HIx.out.box.frozen 0
            have fb1 := HIx.out.box.frozen 1
            have fb2 := HIx.out.box.frozen 2
            have fb3 := HIx.out.box.frozen 3
            have o0 : wx.cell? ⟨w.heap.size + 1, 0, none⟩ = some (.int .i64 0) := HIx.out.out.cell 0
            have o1 : wx.cell? ⟨w.heap.size + 1, 1, none⟩ = some (.int .i64 0) := HIx.out.out.cell 1
            have o2 : wx.cell? ⟨w.heap.size + 1, 2, none⟩ = some (.slice none 0 0) := HIx.out.out.cell 2
            have o3 : wx.cell? ⟨w.heap.size + 1, 3, none⟩ = some (.slice none 0 0) := HIx.out.out.cell 3
            have fo0 := HIx.out.out.frozen 0
            have fo1 := HIx.out.out.frozen 1
            have fo2 := HIx.out.out.frozen 2
            have fo3 := HIx.out.out.frozen 3
            go_wp2_with fail
            refine (HFE.out wx HIx.out.chg).mono ?_
            rintro e w1 ⟨rfl, rfl⟩
            go_wp2_with fail
            refine regionT 5 ((fun V_ => Chg NoB (wx) V_)) (by kernel_rfl) (by decide) ((Chg.refl NoB wx).drew) (fun inv hHeld => ?_)
            refine takeT (i := 0) (t := 42) (v := ?v0y6) rfl (by kernel_rfl) (by kernel_rfl) (by kernel_rfl) (fun _ _ _ h => h) (by kernel_rfl) (by kernel_rfl) (by decide) (by decide) rfl (Or.inl ⟨by rfl, ?h0y6⟩) inv hHeld ?r0y6
            case h0y6 => (intro V' hSw; clear hSw; go_simp; try with_reducible rfl)
            clear inv
            intro inv
            try simp only [List.setIfInBounds_toArray, List.set_cons_zero, List.set_cons_succ]
            refine takeT (i := 1) (t := 43) (v := ?v1y7) rfl (by kernel_rfl) (by kernel_rfl) (by kernel_rfl) (fun _ _ _ h => h) (by kernel_rfl) (by kernel_rfl) (by decide) (by decide) rfl (Or.inl ⟨by rfl, ?h1y7⟩) inv hHeld ?r1y7
            case h1y7 => (intro V' hSw; have hq0 := keepC hSw b0; have hq1 := keepC hSw b1; have hq2 := keepC hSw b2; have hq3 := keepC hSw b3; clear hSw; go_simp; try with_reducible rfl)
            clear inv
            intro inv
            try simp only [List.setIfInBounds_toArray, List.set_cons_zero, List.set_cons_succ]
            refine takeT (i := 2) (t := 44) (v := ?v2y8) rfl (by kernel_rfl) (by kernel_rfl) (by kernel_rfl) (fun _ _ _ h => h) (by kernel_rfl) (by kernel_rfl) (by decide) (by decide) rfl (Or.inl ⟨by rfl, ?h2y8⟩) inv hHeld ?r2y8
            case h2y8 => (intro V' hSw; clear hSw; go_simp; try with_reducible rfl)
            clear inv
            intro inv
            try simp only [List.setIfInBounds_toArray, List.set_cons_zero, List.set_cons_succ]
            refine callT (i := 3) (t := 45) (f := 14) (args := #[.int .i64 6]) rfl (by kernel_rfl) rfl (by rfl) ?hx9 inv (by decide) ?hc9
            case hx9 => (go_simp; try rfl)
            case hc9 =>
              refine (num_c (w := wx.drew) 6).mono ?_
              rintro e w1 ⟨rfl, rfl⟩
              refine ⟨_, rfl, hHeld, fun inv2 hHeld2 => ?_⟩
              clear inv hHeld
              have inv := inv2
              have hHeld := hHeld2
              clear inv2 hHeld2
              try simp only [List.setIfInBounds_toArray, List.set_cons_zero, List.set_cons_succ]
              refine takeT (i := 4) (t := 6) (v := ?v4y10) rfl (by kernel_rfl) (by kernel_rfl) (by kernel_rfl) (fun _ _ _ h => h) (by kernel_rfl) (by kernel_rfl) (by decide) (by decide) rfl (Or.inl ⟨by rfl, ?h4y10⟩) inv hHeld ?r4y10
              case h4y10 => (intro V' hSw; clear hSw; go_simp; try with_reducible rfl)
              clear inv
              intro inv
              try simp only [List.setIfInBounds_toArray, List.set_cons_zero, List.set_cons_succ]
              refine storeE (i := 5) (w' := (((((wx).setCell ⟨w.heap.size + 1, 0, none⟩ (.int .i64 8)).setCell ⟨w.heap.size + 1, 1, none⟩ (.int .i64 t.s.n)).setCell ⟨w.heap.size + 1, 2, none⟩ (.slice t.s.nA t.s.nl t.s.nc)).setCell ⟨w.heap.size + 1, 3, none⟩ (.slice t.s.pA t.s.pl t.s.pc)).drew) rfl (by kernel_rfl) rfl (by rfl) ?hx11 (by decide) ?_
              case hx11 => (go_simp; try with_reducible rfl)
              try simp only [List.setIfInBounds_toArray, List.set_cons_zero, List.set_cons_succ]
              refine lastV (i := 6) (t := 8) (v := ?vl12) (w' := (((((wx).setCell ⟨w.heap.size + 1, 0, none⟩ (.int .i64 8)).setCell ⟨w.heap.size + 1, 1, none⟩ (.int .i64 t.s.n)).setCell ⟨w.heap.size + 1, 2, none⟩ (.slice t.s.nA t.s.nl t.s.nc)).setCell ⟨w.heap.size + 1, 3, none⟩ (.slice t.s.pA t.s.pl t.s.pc)).drew) rfl (by kernel_rfl) rfl (by rfl) ?hx12 (by decide) (by kernel_rfl) ?_
              case hx12 => (go_simp; try with_reducible rfl)
              clear inv hHeld
              have hB : Blk ((((((wx).setCell ⟨w.heap.size + 1, 0, none⟩ (.int .i64 8)).setCell ⟨w.heap.size + 1, 1, none⟩ (.int .i64 t.s.n)).setCell ⟨w.heap.size + 1, 2, none⟩ (.slice t.s.nA t.s.nl t.s.nc)).setCell ⟨w.heap.size + 1, 3, none⟩ (.slice t.s.pA t.s.pl t.s.pc)).drew) (w.heap.size + 1) ShT #[.int .i64 8, .int .i64 t.s.n, .slice t.s.nA t.s.nl t.s.nc, .slice t.s.pA t.s.pl t.s.pc] := ((((HIx.out.out.set_ 0 _).set_ 1 _).set_ 2 _).set_ 3 _).drew
              have hC : Chg NoB w ((((((wx).setCell ⟨w.heap.size + 1, 0, none⟩ (.int .i64 8)).setCell ⟨w.heap.size + 1, 1, none⟩ (.int .i64 t.s.n)).setCell ⟨w.heap.size + 1, 2, none⟩ (.slice t.s.nA t.s.nl t.s.nc)).setCell ⟨w.heap.size + 1, 3, none⟩ (.slice t.s.pA t.s.pl t.s.pc)).drew) := ((((HIx.out.chg.setCell (fun h => absurd h (by simp)) _).setCell (fun h => absurd h (by simp)) _).setCell (fun h => absurd h (by simp)) _).setCell (fun h => absurd h (by simp)) _).drew
              have HBC := Go.Lib.hid (And.intro hB hC)
              have z0 := hB.cell 0
              have z1 := hB.cell 1
              have z2 := hB.cell 2
              have z3 := hB.cell 3
              simp only [List.getElem?_toArray, List.getElem?_cons_succ, List.getElem?_cons_zero] at z0 z1 z2 z3
              clear hB hC
              generalize (((((wx).setCell ⟨w.heap.size + 1, 0, none⟩ (.int .i64 8)).setCell ⟨w.heap.size + 1, 1, none⟩ (.int .i64 t.s.n)).setCell ⟨w.heap.size + 1, 2, none⟩ (.slice t.s.nA t.s.nl t.s.nc)).setCell ⟨w.heap.size + 1, 3, none⟩ (.slice t.s.pA t.s.pl t.s.pc)).drew = wz at *
              go_wp2_with fail
              try simp only [Exit.inBlock, Exit.then]
              refine bodyPost_ret (v := .tuple #[.pointer none, .agg #[.int .i64 8, .int .i64 t.s.n, .slice t.s.nA t.s.nl t.s.nc, .slice t.s.pA t.s.pl t.s.pc], .int .i64 6]) ?_ rfl ?_
              · rw [results_tct rfl]
                go_simp
              exact ⟨_, ⟨8, t.s.n, t.s.nA, t.s.nl, t.s.nc, t.s.pA, t.s.pl, t.s.pc⟩, _, rfl, HBC.out.2, .inl (by decide)⟩
          · have hbd : (t.s.nl : Int) ≤ p := by omega
            have hp0' : decide (p < 0) = false := by simpa using hp0
            go_wp2_with fail
            refine regionT 14 (fun V' => Chg NoB (wr) V') (by kernel_rfl) (by decide) ((Chg.refl NoB wr).drew) (fun inv hHeld => ?_)
            refine takeT (i := 0) (t := 22) (v := ?v0y35) rfl (by kernel_rfl) (by kernel_rfl) (by kernel_rfl) (fun _ _ _ h => h) (by kernel_rfl) (by kernel_rfl) (by decide) (by decide) rfl (Or.inl ⟨by rfl, ?h0y35⟩) inv hHeld ?r0y35
            case h0y35 => (intro V' hSw; clear hSw; go_simp; try with_reducible rfl)
            clear inv
            intro inv
            try simp only [List.setIfInBounds_toArray, List.set_cons_zero, List.set_cons_succ]
            refine takeT (i := 1) (t := 23) (v := ?v1y36) rfl (by kernel_rfl) (by kernel_rfl) (by kernel_rfl) (fun _ _ _ h => h) (by kernel_rfl) (by kernel_rfl) (by decide) (by decide) rfl (Or.inl ⟨by rfl, ?h1y36⟩) inv hHeld ?r1y36
            case h1y36 => (intro V' hSw; clear hSw; go_simp; try with_reducible rfl)
            clear inv
            intro inv
            try simp only [List.setIfInBounds_toArray, List.set_cons_zero, List.set_cons_succ]
            refine takeT (i := 2) (t := 24) (v := ?v2y37) rfl (by kernel_rfl) (by kernel_rfl) (by kernel_rfl) (fun _ _ _ h => h) (by kernel_rfl) (by kernel_rfl) (by decide) (by decide) rfl (Or.inl ⟨by rfl, ?h2y37⟩) inv hHeld ?r2y37
            case h2y37 => (intro V' hSw; clear hSw; go_simp; try with_reducible rfl)
            clear inv
            intro inv
            try simp only [List.setIfInBounds_toArray, List.set_cons_zero, List.set_cons_succ]
            refine takeT (i := 3) (t := 25) (v := ?v3y38) rfl (by kernel_rfl) (by kernel_rfl) (by kernel_rfl) (fun _ _ _ h => h) (by kernel_rfl) (by kernel_rfl) (by decide) (by decide) rfl (Or.inl ⟨by rfl, ?h3y38⟩) inv hHeld ?r3y38
            case h3y38 => (intro V' hSw; have hq := keepC hSw hpc; clear hSw; go_simp; try with_reducible rfl)
            clear inv
            intro inv
            try simp only [List.setIfInBounds_toArray, List.set_cons_zero, List.set_cons_succ]
            refine takeT (i := 4) (t := 26) (v := ?v4y39) rfl (by kernel_rfl) (by kernel_rfl) (by kernel_rfl) (fun _ _ _ h => h) (by kernel_rfl) (by kernel_rfl) (by decide) (by decide) rfl (Or.inl ⟨by rfl, ?h4y39⟩) inv hHeld ?r4y39
            case h4y39 => (intro V' hSw; clear hSw; go_simp; try with_reducible rfl)
            clear inv
            intro inv
            try simp only [List.setIfInBounds_toArray, List.set_cons_zero, List.set_cons_succ]
            refine takeT (i := 5) (t := 27) (v := ?v5y40) rfl (by kernel_rfl) (by kernel_rfl) (by kernel_rfl) (fun _ _ _ h => h) (by kernel_rfl) (by kernel_rfl) (by decide) (by decide) rfl (Or.inl ⟨by rfl, ?h5y40⟩) inv hHeld ?r5y40
            case h5y40 => (intro V' hSw; clear hSw; go_simp; try with_reducible rfl)
            clear inv
            intro inv
            try simp only [List.setIfInBounds_toArray, List.set_cons_zero, List.set_cons_succ]
            refine takeT (i := 6) (t := 28) (v := ?v6y41) rfl (by kernel_rfl) (by kernel_rfl) (by kernel_rfl) (fun _ _ _ h => h) (by kernel_rfl) (by kernel_rfl) (by decide) (by decide) rfl (Or.inl ⟨by rfl, ?h6y41⟩) inv hHeld ?r6y41
            case h6y41 => (intro V' hSw; clear hSw; go_simp; try with_reducible rfl)
            clear inv
            intro inv
            try simp only [List.setIfInBounds_toArray, List.set_cons_zero, List.set_cons_succ]
            refine takeT (i := 7) (t := 29) (v := ?v7y42) rfl (by kernel_rfl) (by kernel_rfl) (by kernel_rfl) (fun _ _ _ h => h) (by kernel_rfl) (by kernel_rfl) (by decide) (by decide) rfl (Or.inl ⟨by rfl, ?h7y42⟩) inv hHeld ?r7y42
            case h7y42 => (intro V' hSw; clear hSw; go_simp; try with_reducible rfl)
            clear inv
            intro inv
            try simp only [List.setIfInBounds_toArray, List.set_cons_zero, List.set_cons_succ]
            refine takeT (i := 8) (t := 30) (v := ?v8y43) rfl (by kernel_rfl) (by kernel_rfl) (by kernel_rfl) (fun _ _ _ h => h) (by kernel_rfl) (by kernel_rfl) (by decide) (by decide) rfl (Or.inl ⟨by rfl, ?h8y43⟩) inv hHeld ?r8y43
            case h8y43 => (intro V' hSw; clear hSw; go_simp; try with_reducible rfl)
            clear inv
            intro inv
            try simp only [List.setIfInBounds_toArray, List.set_cons_zero, List.set_cons_succ]
            refine takeT (i := 9) (t := 31) (v := ?v9y44) rfl (by kernel_rfl) (by kernel_rfl) (by kernel_rfl) (fun _ _ _ h => h) (by kernel_rfl) (by kernel_rfl) (by decide) (by decide) rfl (Or.inl ⟨by rfl, ?h9y44⟩) inv hHeld ?r9y44
            case h9y44 => (intro V' hSw; have hq := keepC hSw hpc; clear hSw; go_simp; try with_reducible rfl)
            clear inv
            intro inv
            try simp only [List.setIfInBounds_toArray, List.set_cons_zero, List.set_cons_succ]
            refine takeT (i := 10) (t := 32) (v := ?v10y45) rfl (by kernel_rfl) (by kernel_rfl) (by kernel_rfl) (fun _ _ _ h => h) (by kernel_rfl) (by kernel_rfl) (by decide) (by decide) rfl (Or.inl ⟨by rfl, ?h10y45⟩) inv hHeld ?r10y45
            case h10y45 => (intro V' hSw; clear hSw; go_simp; try with_reducible rfl)
            clear inv
            intro inv
            try simp only [List.setIfInBounds_toArray, List.set_cons_zero, List.set_cons_succ]
            refine takeT (i := 11) (t := 33) (v := ?v11y46) rfl (by kernel_rfl) (by kernel_rfl) (by kernel_rfl) (fun _ _ _ h => h) (by kernel_rfl) (by kernel_rfl) (by decide) (by decide) rfl (Or.inl ⟨by rfl, ?h11y46⟩) inv hHeld ?r11y46
            case h11y46 => (intro V' hSw; have hq := keepC hSw b2; clear hSw; go_simp; try with_reducible rfl)
            clear inv
            intro inv
            try simp only [List.setIfInBounds_toArray, List.set_cons_zero, List.set_cons_succ]
            refine takeT (i := 12) (t := 34) (v := ?v12y47) rfl (by kernel_rfl) (by kernel_rfl) (by kernel_rfl) (fun _ _ _ h => h) (by kernel_rfl) (by kernel_rfl) (by decide) (by decide) rfl (Or.inl ⟨by rfl, ?h12y47⟩) inv hHeld ?r12y47
            case h12y47 => (intro V' hSw; clear hSw; go_simp; try with_reducible rfl)
            clear inv
            intro inv
            try simp only [List.setIfInBounds_toArray, List.set_cons_zero, List.set_cons_succ]
            refine takeT (i := 13) (t := 35) (v := ?v13y48) rfl (by kernel_rfl) (by kernel_rfl) (by kernel_rfl) (fun _ _ _ h => h) (by kernel_rfl) (by kernel_rfl) (by decide) (by decide) rfl (Or.inl ⟨by rfl, ?h13y48⟩) inv hHeld ?r13y48
            case h13y48 => (intro V' hSw; clear hSw; go_simp; try with_reducible rfl)
            clear inv
            intro inv
            try simp only [List.setIfInBounds_toArray, List.set_cons_zero, List.set_cons_succ]
            refine lastV (i := 14) (t := 36) (v := .bool true) (w' := wr.drew) rfl (by kernel_rfl) rfl (by rfl) ?hx49 (by decide) (by kernel_rfl) ?_
            case hx49 => (go_simp; first | done | exact hbd | omega)
            clear inv
            have hIx := HI.out.quiet (Chg.refl NoB wr).drew
            clear b0 b1 b2 b3 fb0 fb1 fb2 fb3 o0 o1 o2 o3 fo0 fo1 fo2 fo3
            generalize wr.drew = wx at *
            have HIx := Go.Lib.hid hIx
            clear hIx
            have b0 : wx.cell? ⟨w.heap.size, 0, none⟩ = some (.int .i64 8) := by rw [← hk8]; exact HIx.out.box.cell 0
            have b1 : wx.cell? ⟨w.heap.size, 1, none⟩ = some (.int .i64 t.s.n) := HIx.out.box.cell 1
            have b2 : wx.cell? ⟨w.heap.size, 2, none⟩ = some (.slice t.s.nA t.s.nl t.s.nc) := HIx.out.box.cell 2
            have b3 : wx.cell? ⟨w.heap.size, 3, none⟩ = some (.slice t.s.pA t.s.pl t.s.pc) := HIx.out.box.cell 3
            have fb0 := HIx.out.box.frozen 0
            have fb1 := HIx.out.box.frozen 1
            have fb2 := HIx.out.box.frozen 2
            have fb3 := HIx.out.box.frozen 3
            have o0 : wx.cell? ⟨w.heap.size + 1, 0, none⟩ = some (.int .i64 0) := HIx.out.out.cell 0
            have o1 : wx.cell? ⟨w.heap.size + 1, 1, none⟩ = some (.int .i64 0) := HIx.out.out.cell 1
            have o2 : wx.cell? ⟨w.heap.size + 1, 2, none⟩ = some (.slice none 0 0) := HIx.out.out.cell 2
            have o3 : wx.cell? ⟨w.heap.size + 1, 3, none⟩ = some (.slice none 0 0) := HIx.out.out.cell 3
            have fo0 := HIx.out.out.frozen 0
            have fo1 := HIx.out.out.frozen 1
            have fo2 := HIx.out.out.frozen 2
            have fo3 := HIx.out.out.frozen 3
            go_wp2_with fail
            refine (HFE.out wx HIx.out.chg).mono ?_
            rintro e w1 ⟨rfl, rfl⟩
            go_wp2_with fail
            refine regionT 5 ((fun V_ => Chg NoB (wx) V_)) (by kernel_rfl) (by decide) ((Chg.refl NoB wx).drew) (fun inv hHeld => ?_)
            refine takeT (i := 0) (t := 42) (v := ?v0y28) rfl (by kernel_rfl) (by kernel_rfl) (by kernel_rfl) (fun _ _ _ h => h) (by kernel_rfl) (by kernel_rfl) (by decide) (by decide) rfl (Or.inl ⟨by rfl, ?h0y28⟩) inv hHeld ?r0y28
            case h0y28 => (intro V' hSw; clear hSw; go_simp; try with_reducible rfl)
            clear inv
            intro inv
            try simp only [List.setIfInBounds_toArray, List.set_cons_zero, List.set_cons_succ]
            refine takeT (i := 1) (t := 43) (v := ?v1y29) rfl (by kernel_rfl) (by kernel_rfl) (by kernel_rfl) (fun _ _ _ h => h) (by kernel_rfl) (by kernel_rfl) (by decide) (by decide) rfl (Or.inl ⟨by rfl, ?h1y29⟩) inv hHeld ?r1y29
            case h1y29 => (intro V' hSw; have hq0 := keepC hSw b0; have hq1 := keepC hSw b1; have hq2 := keepC hSw b2; have hq3 := keepC hSw b3; clear hSw; go_simp; try with_reducible rfl)
            clear inv
            intro inv
            try simp only [List.setIfInBounds_toArray, List.set_cons_zero, List.set_cons_succ]
            refine takeT (i := 2) (t := 44) (v := ?v2y30) rfl (by kernel_rfl) (by kernel_rfl) (by kernel_rfl) (fun _ _ _ h => h) (by kernel_rfl) (by kernel_rfl) (by decide) (by decide) rfl (Or.inl ⟨by rfl, ?h2y30⟩) inv hHeld ?r2y30
            case h2y30 => (intro V' hSw; clear hSw; go_simp; try with_reducible rfl)
            clear inv
            intro inv
            try simp only [List.setIfInBounds_toArray, List.set_cons_zero, List.set_cons_succ]
            refine callT (i := 3) (t := 45) (f := 14) (args := #[.int .i64 6]) rfl (by kernel_rfl) rfl (by rfl) ?hx31 inv (by decide) ?hc31
            case hx31 => (go_simp; try rfl)
            case hc31 =>
              refine (num_c (w := wx.drew) 6).mono ?_
              rintro e w1 ⟨rfl, rfl⟩
              refine ⟨_, rfl, hHeld, fun inv2 hHeld2 => ?_⟩
              clear inv hHeld
              have inv := inv2
              have hHeld := hHeld2
              clear inv2 hHeld2
              try simp only [List.setIfInBounds_toArray, List.set_cons_zero, List.set_cons_succ]
              refine takeT (i := 4) (t := 6) (v := ?v4y32) rfl (by kernel_rfl) (by kernel_rfl) (by kernel_rfl) (fun _ _ _ h => h) (by kernel_rfl) (by kernel_rfl) (by decide) (by decide) rfl (Or.inl ⟨by rfl, ?h4y32⟩) inv hHeld ?r4y32
              case h4y32 => (intro V' hSw; clear hSw; go_simp; try with_reducible rfl)
              clear inv
              intro inv
              try simp only [List.setIfInBounds_toArray, List.set_cons_zero, List.set_cons_succ]
              refine storeE (i := 5) (w' := (((((wx).setCell ⟨w.heap.size + 1, 0, none⟩ (.int .i64 8)).setCell ⟨w.heap.size + 1, 1, none⟩ (.int .i64 t.s.n)).setCell ⟨w.heap.size + 1, 2, none⟩ (.slice t.s.nA t.s.nl t.s.nc)).setCell ⟨w.heap.size + 1, 3, none⟩ (.slice t.s.pA t.s.pl t.s.pc)).drew) rfl (by kernel_rfl) rfl (by rfl) ?hx33 (by decide) ?_
              case hx33 => (go_simp; try with_reducible rfl)
              try simp only [List.setIfInBounds_toArray, List.set_cons_zero, List.set_cons_succ]
              refine lastV (i := 6) (t := 8) (v := ?vl34) (w' := (((((wx).setCell ⟨w.heap.size + 1, 0, none⟩ (.int .i64 8)).setCell ⟨w.heap.size + 1, 1, none⟩ (.int .i64 t.s.n)).setCell ⟨w.heap.size + 1, 2, none⟩ (.slice t.s.nA t.s.nl t.s.nc)).setCell ⟨w.heap.size + 1, 3, none⟩ (.slice t.s.pA t.s.pl t.s.pc)).drew) rfl (by kernel_rfl) rfl (by rfl) ?hx34 (by decide) (by kernel_rfl) ?_
              case hx34 => (go_simp; try with_reducible rfl)
              clear inv hHeld
              have hB : Blk ((((((wx).setCell ⟨w.heap.size + 1, 0, none⟩ (.int .i64 8)).setCell ⟨w.heap.size + 1, 1, none⟩ (.int .i64 t.s.n)).setCell ⟨w.heap.size + 1, 2, none⟩ (.slice t.s.nA t.s.nl t.s.nc)).setCell ⟨w.heap.size + 1, 3, none⟩ (.slice t.s.pA t.s.pl t.s.pc)).drew) (w.heap.size + 1) ShT #[.int .i64 8, .int .i64 t.s.n, .slice t.s.nA t.s.nl t.s.nc, .slice t.s.pA t.s.pl t.s.pc] := ((((HIx.out.out.set_ 0 _).set_ 1 _).set_ 2 _).set_ 3 _).drew
              have hC : Chg NoB w ((((((wx).setCell ⟨w.heap.size + 1, 0, none⟩ (.int .i64 8)).setCell ⟨w.heap.size + 1, 1, none⟩ (.int .i64 t.s.n)).setCell ⟨w.heap.size + 1, 2, none⟩ (.slice t.s.nA t.s.nl t.s.nc)).setCell ⟨w.heap.size + 1, 3, none⟩ (.slice t.s.pA t.s.pl t.s.pc)).drew) := ((((HIx.out.chg.setCell (fun h => absurd h (by simp)) _).setCell (fun h => absurd h (by simp)) _).setCell (fun h => absurd h (by simp)) _).setCell (fun h => absurd h (by simp)) _).drew
              have HBC := Go.Lib.hid (And.intro hB hC)
              have z0 := hB.cell 0
              have z1 := hB.cell 1
              have z2 := hB.cell 2
              have z3 := hB.cell 3
              simp only [List.getElem?_toArray, List.getElem?_cons_succ, List.getElem?_cons_zero] at z0 z1 z2 z3
              clear hB hC
              generalize (((((wx).setCell ⟨w.heap.size + 1, 0, none⟩ (.int .i64 8)).setCell ⟨w.heap.size + 1, 1, none⟩ (.int .i64 t.s.n)).setCell ⟨w.heap.size + 1, 2, none⟩ (.slice t.s.nA t.s.nl t.s.nc)).setCell ⟨w.heap.size + 1, 3, none⟩ (.slice t.s.pA t.s.pl t.s.pc)).drew = wz at *
              go_wp2_with fail
              try simp only [Exit.inBlock, Exit.then]
              refine bodyPost_ret (v := .tuple #[.pointer none, .agg #[.int .i64 8, .int .i64 t.s.n, .slice t.s.nA t.s.nl t.s.nc, .slice t.s.pA t.s.pl t.s.pc], .int .i64 6]) ?_ rfl ?_
              · rw [results_tct rfl]
                go_simp
              exact ⟨_, ⟨8, t.s.n, t.s.nA, t.s.nl, t.s.nc, t.s.pA, t.s.pl, t.s.pc⟩, _, rfl, HBC.out.2, .inl (by decide)⟩
        · have hbd : ¬ (t.s.nl : Int) ≤ p := by omega
          have hp0' : decide (p < 0) = false := by simp; omega
          obtain ⟨j, rfl⟩ : ∃ j : Nat, p = j := ⟨p.toNat, by omega⟩
          have hjl : j < t.s.nl := by omega
          have hjp : j < t.s.pl := by have := HNP.out; omega
          obtain ⟨nm, hnm⟩ : ∃ nm, t.ns[j]? = some nm := ⟨_, List.getElem?_eq_getElem (by have := HNL.out; omega)⟩
          obtain ⟨kb, x, A', c', kk', hat, hka, hF⟩ := field_at HV.out.1 hT8 HI.out.er hnm
          obtain ⟨na, hna, hncell⟩ := HI.out.sh.ok.names (by have := HNL.out; simp; omega)
          have HNC : Hid (∀ W, Chg NoB w W → W.cell? (na.add j) = some (.string nm)) := Go.Lib.hid fun W hW => keepC hW (hncell j (.string nm) (by rw [List.getElem?_map, hnm]; rfl))
          obtain ⟨pb, po, sv, ns', kkk, hpA, ha, q0, q1, q2, q3, hIs⟩ := HI.out.sh.part hjp
          rw [hka] at ha
          injection ha with ha
          injection ha with ha1 ha2
          injection ha2 with ha2 ha3
          subst ha1 ha2 ha3
          have HQ : Hid (∀ W, Chg NoB w W → W.cell? ⟨pb, po + j * 4, none⟩ = some (.int .i64 x.s.k) ∧ W.cell? ⟨pb, po + j * 4 + 1, none⟩ = some (.int .i64 x.s.n) ∧ W.cell? ⟨pb, po + j * 4 + 2, none⟩ = some (.slice x.s.nA x.s.nl x.s.nc) ∧ W.cell? ⟨pb, po + j * 4 + 3, none⟩ = some (.slice x.s.pA x.s.pl x.s.pc)) := Go.Lib.hid fun W hW => ⟨keepC hW q0, keepC hW q1, keepC hW q2, keepC hW q3⟩
          clear q0 q1 q2 q3
          have HFF := Go.Lib.hid hF
          have HK := Go.Lib.hid (And.intro hat (And.intro hka hIs))
          have HA := Go.Lib.hid (And.intro hna hpA)
          rw [hna] at b2
          rw [hpA] at b3
          clear hat hka hF hncell hIs hnm
          unfold ptr at HFF
          go_wp2_with fail
          refine regionT 14 (fun V' => Chg NoB (wr) V') (by kernel_rfl) (by decide) ((Chg.refl NoB wr).drew) (fun inv hHeld => ?_)
          refine takeT (i := 0) (t := 22) (v := ?v0y74) rfl (by kernel_rfl) (by kernel_rfl) (by kernel_rfl) (fun _ _ _ h => h) (by kernel_rfl) (by kernel_rfl) (by decide) (by decide) rfl (Or.inl ⟨by rfl, ?h0y74⟩) inv hHeld ?r0y74
          case h0y74 => (intro V' hSw; clear hSw; go_simp; try with_reducible rfl)
          clear inv
          intro inv
          try simp only [List.setIfInBounds_toArray, List.set_cons_zero, List.set_cons_succ]
          refine takeT (i := 1) (t := 23) (v := ?v1y75) rfl (by kernel_rfl) (by kernel_rfl) (by kernel_rfl) (fun _ _ _ h => h) (by kernel_rfl) (by kernel_rfl) (by decide) (by decide) rfl (Or.inl ⟨by rfl, ?h1y75⟩) inv hHeld ?r1y75
          case h1y75 => (intro V' hSw; clear hSw; go_simp; try with_reducible rfl)
          clear inv
          intro inv
          try simp only [List.setIfInBounds_toArray, List.set_cons_zero, List.set_cons_succ]
          refine takeT (i := 2) (t := 24) (v := ?v2y76) rfl (by kernel_rfl) (by kernel_rfl) (by kernel_rfl) (fun _ _ _ h => h) (by kernel_rfl) (by kernel_rfl) (by decide) (by decide) rfl (Or.inl ⟨by rfl, ?h2y76⟩) inv hHeld ?r2y76
          case h2y76 => (intro V' hSw; clear hSw; go_simp; try with_reducible rfl)
          clear inv
          intro inv
          try simp only [List.setIfInBounds_toArray, List.set_cons_zero, List.set_cons_succ]
          refine takeT (i := 3) (t := 25) (v := ?v3y77) rfl (by kernel_rfl) (by kernel_rfl) (by kernel_rfl) (fun _ _ _ h => h) (by kernel_rfl) (by kernel_rfl) (by decide) (by decide) rfl (Or.inl ⟨by rfl, ?h3y77⟩) inv hHeld ?r3y77
          case h3y77 => (intro V' hSw; have hq := keepC hSw hpc; clear hSw; go_simp; try with_reducible rfl)
          clear inv
          intro inv
          try simp only [List.setIfInBounds_toArray, List.set_cons_zero, List.set_cons_succ]
          refine takeT (i := 4) (t := 26) (v := ?v4y78) rfl (by kernel_rfl) (by kernel_rfl) (by kernel_rfl) (fun _ _ _ h => h) (by kernel_rfl) (by kernel_rfl) (by decide) (by decide) rfl (Or.inl ⟨by rfl, ?h4y78⟩) inv hHeld ?r4y78
          case h4y78 => (intro V' hSw; clear hSw; go_simp; try with_reducible rfl)
          clear inv
          intro inv
          try simp only [List.setIfInBounds_toArray, List.set_cons_zero, List.set_cons_succ]
          refine takeT (i := 5) (t := 27) (v := ?v5y79) rfl (by kernel_rfl) (by kernel_rfl) (by kernel_rfl) (fun _ _ _ h => h) (by kernel_rfl) (by kernel_rfl) (by decide) (by decide) rfl (Or.inl ⟨by rfl, ?h5y79⟩) inv hHeld ?r5y79
          case h5y79 => (intro V' hSw; clear hSw; go_simp; try with_reducible rfl)
          clear inv
          intro inv
          try simp only [List.setIfInBounds_toArray, List.set_cons_zero, List.set_cons_succ]
          refine takeT (i := 6) (t := 28) (v := ?v6y80) rfl (by kernel_rfl) (by kernel_rfl) (by kernel_rfl) (fun _ _ _ h => h) (by kernel_rfl) (by kernel_rfl) (by decide) (by decide) rfl (Or.inl ⟨by rfl, ?h6y80⟩) inv hHeld ?r6y80
          case h6y80 => (intro V' hSw; clear hSw; go_simp; try with_reducible rfl)
          clear inv
          intro inv
          try simp only [List.setIfInBounds_toArray, List.set_cons_zero, List.set_cons_succ]
          refine takeT (i := 7) (t := 29) (v := ?v7y81) rfl (by kernel_rfl) (by kernel_rfl) (by kernel_rfl) (fun _ _ _ h => h) (by kernel_rfl) (by kernel_rfl) (by decide) (by decide) rfl (Or.inl ⟨by rfl, ?h7y81⟩) inv hHeld ?r7y81
          case h7y81 => (intro V' hSw; clear hSw; go_simp; try with_reducible rfl)
          clear inv
          intro inv
          try simp only [List.setIfInBounds_toArray, List.set_cons_zero, List.set_cons_succ]
          refine takeT (i := 8) (t := 30) (v := ?v8y82) rfl (by kernel_rfl) (by kernel_rfl) (by kernel_rfl) (fun _ _ _ h => h) (by kernel_rfl) (by kernel_rfl) (by decide) (by decide) rfl (Or.inl ⟨by rfl, ?h8y82⟩) inv hHeld ?r8y82
          case h8y82 => (intro V' hSw; clear hSw; go_simp; try with_reducible rfl)
          clear inv
          intro inv
          try simp only [List.setIfInBounds_toArray, List.set_cons_zero, List.set_cons_succ]
          refine takeT (i := 9) (t := 31) (v := ?v9y83) rfl (by kernel_rfl) (by kernel_rfl) (by kernel_rfl) (fun _ _ _ h => h) (by kernel_rfl) (by kernel_rfl) (by decide) (by decide) rfl (Or.inl ⟨by rfl, ?h9y83⟩) inv hHeld ?r9y83
          case h9y83 => (intro V' hSw; have hq := keepC hSw hpc; clear hSw; go_simp; try with_reducible rfl)
          clear inv
          intro inv
          try simp only [List.setIfInBounds_toArray, List.set_cons_zero, List.set_cons_succ]
          refine takeT (i := 10) (t := 32) (v := ?v10y84) rfl (by kernel_rfl) (by kernel_rfl) (by kernel_rfl) (fun _ _ _ h => h) (by kernel_rfl) (by kernel_rfl) (by decide) (by decide) rfl (Or.inl ⟨by rfl, ?h10y84⟩) inv hHeld ?r10y84
          case h10y84 => (intro V' hSw; clear hSw; go_simp; try with_reducible rfl)
          clear inv
          intro inv
          try simp only [List.setIfInBounds_toArray, List.set_cons_zero, List.set_cons_succ]
          refine takeT (i := 11) (t := 33) (v := ?v11y85) rfl (by kernel_rfl) (by kernel_rfl) (by kernel_rfl) (fun _ _ _ h => h) (by kernel_rfl) (by kernel_rfl) (by decide) (by decide) rfl (Or.inl ⟨by rfl, ?h11y85⟩) inv hHeld ?r11y85
          case h11y85 => (intro V' hSw; have hq := keepC hSw b2; clear hSw; go_simp; try with_reducible rfl)
          clear inv
          intro inv
          try simp only [List.setIfInBounds_toArray, List.set_cons_zero, List.set_cons_succ]
          refine takeT (i := 12) (t := 34) (v := ?v12y86) rfl (by kernel_rfl) (by kernel_rfl) (by kernel_rfl) (fun _ _ _ h => h) (by kernel_rfl) (by kernel_rfl) (by decide) (by decide) rfl (Or.inl ⟨by rfl, ?h12y86⟩) inv hHeld ?r12y86
          case h12y86 => (intro V' hSw; clear hSw; go_simp; try with_reducible rfl)
          clear inv
          intro inv
          try simp only [List.setIfInBounds_toArray, List.set_cons_zero, List.set_cons_succ]
          refine takeT (i := 13) (t := 35) (v := ?v13y87) rfl (by kernel_rfl) (by kernel_rfl) (by kernel_rfl) (fun _ _ _ h => h) (by kernel_rfl) (by kernel_rfl) (by decide) (by decide) rfl (Or.inl ⟨by rfl, ?h13y87⟩) inv hHeld ?r13y87
          case h13y87 => (intro V' hSw; clear hSw; go_simp; try with_reducible rfl)
          clear inv
          intro inv
          try simp only [List.setIfInBounds_toArray, List.set_cons_zero, List.set_cons_succ]
          refine lastV (i := 14) (t := 36) (v := .bool false) (w' := wr.drew) rfl (by kernel_rfl) rfl (by rfl) ?hx88 (by decide) (by kernel_rfl) ?_
          case hx88 => (go_simp; first | done | exact hbd | omega)
          clear inv
          have hIx := HI.out.quiet (Chg.refl NoB wr).drew
          clear b0 b1 b2 b3 fb0 fb1 fb2 fb3 o0 o1 o2 o3 fo0 fo1 fo2 fo3
          generalize wr.drew = wx at *
          have HIx := Go.Lib.hid hIx
          clear hIx
          have hpx := HPC.out wx HIx.out.chg
          have hnx := HNC.out wx HIx.out.chg
          have b0 : wx.cell? ⟨w.heap.size, 0, none⟩ = some (.int .i64 8) := by rw [← hk8]; exact HIx.out.box.cell 0
          have b1 : wx.cell? ⟨w.heap.size, 1, none⟩ = some (.int .i64 t.s.n) := HIx.out.box.cell 1
          have b2 : wx.cell? ⟨w.heap.size, 2, none⟩ = some (.slice t.s.nA t.s.nl t.s.nc) := HIx.out.box.cell 2
          have b3 : wx.cell? ⟨w.heap.size, 3, none⟩ = some (.slice t.s.pA t.s.pl t.s.pc) := HIx.out.box.cell 3
          have fb0 := HIx.out.box.frozen 0
          have fb1 := HIx.out.box.frozen 1
          have fb2 := HIx.out.box.frozen 2
          have fb3 := HIx.out.box.frozen 3
          have o0 : wx.cell? ⟨w.heap.size + 1, 0, none⟩ = some (.int .i64 0) := HIx.out.out.cell 0
          have o1 : wx.cell? ⟨w.heap.size + 1, 1, none⟩ = some (.int .i64 0) := HIx.out.out.cell 1
          have o2 : wx.cell? ⟨w.heap.size + 1, 2, none⟩ = some (.slice none 0 0) := HIx.out.out.cell 2
          have o3 : wx.cell? ⟨w.heap.size + 1, 3, none⟩ = some (.slice none 0 0) := HIx.out.out.cell 3
          have fo0 := HIx.out.out.frozen 0
          have fo1 := HIx.out.out.frozen 1
          have fo2 := HIx.out.out.frozen 2
          have fo3 := HIx.out.out.frozen 3
          rw [HA.out.1] at b2
          rw [HA.out.2] at b3
          go_wp2_with fail
          refine regionT 14 ((fun V_ => Chg NoB (wx) V_)) (by kernel_rfl) (by decide) ((Chg.refl NoB wx).drew) (fun inv hHeld => ?_)
          refine takeT (i := 0) (t := 47) (v := ?v0y59) rfl (by kernel_rfl) (by kernel_rfl) (by kernel_rfl) (fun _ _ _ h => h) (by kernel_rfl) (by kernel_rfl) (by decide) (by decide) rfl (Or.inl ⟨by rfl, ?h0y59⟩) inv hHeld ?r0y59
          case h0y59 => (intro V' hSw; clear hSw; go_simp; try with_reducible rfl)
          clear inv
          intro inv
          try simp only [List.setIfInBounds_toArray, List.set_cons_zero, List.set_cons_succ]
          refine takeT (i := 1) (t := 48) (v := ?v1y60) rfl (by kernel_rfl) (by kernel_rfl) (by kernel_rfl) (fun _ _ _ h => h) (by kernel_rfl) (by kernel_rfl) (by decide) (by decide) rfl (Or.inl ⟨by rfl, ?h1y60⟩) inv hHeld ?r1y60
          case h1y60 => (intro V' hSw; clear hSw; go_simp; try with_reducible rfl)
          clear inv
          intro inv
          try simp only [List.setIfInBounds_toArray, List.set_cons_zero, List.set_cons_succ]
          refine takeT (i := 2) (t := 49) (v := ?v2y61) rfl (by kernel_rfl) (by kernel_rfl) (by kernel_rfl) (fun _ _ _ h => h) (by kernel_rfl) (by kernel_rfl) (by decide) (by decide) rfl (Or.inl ⟨by rfl, ?h2y61⟩) inv hHeld ?r2y61
          case h2y61 => (intro V' hSw; have hq := keepC hSw b2; clear hSw; go_simp; try with_reducible rfl)
          clear inv
          intro inv
          try simp only [List.setIfInBounds_toArray, List.set_cons_zero, List.set_cons_succ]
          refine takeT (i := 3) (t := 50) (v := ?v3y62) rfl (by kernel_rfl) (by kernel_rfl) (by kernel_rfl) (fun _ _ _ h => h) (by kernel_rfl) (by kernel_rfl) (by decide) (by decide) rfl (Or.inl ⟨by rfl, ?h3y62⟩) inv hHeld ?r3y62
          case h3y62 => (intro V' hSw; clear hSw; go_simp; try with_reducible rfl)
          clear inv
          intro inv
          try simp only [List.setIfInBounds_toArray, List.set_cons_zero, List.set_cons_succ]
          refine takeT (i := 4) (t := 51) (v := ?v4y63) rfl (by kernel_rfl) (by kernel_rfl) (by kernel_rfl) (fun _ _ _ h => h) (by kernel_rfl) (by kernel_rfl) (by decide) (by decide) rfl (Or.inl ⟨by rfl, ?h4y63⟩) inv hHeld ?r4y63
          case h4y63 => (intro V' hSw; clear hSw; go_simp; try with_reducible rfl)
          clear inv
          intro inv
          try simp only [List.setIfInBounds_toArray, List.set_cons_zero, List.set_cons_succ]
          refine takeT (i := 5) (t := 52) (v := ?v5y64) rfl (by kernel_rfl) (by kernel_rfl) (by kernel_rfl) (fun _ _ _ h => h) (by kernel_rfl) (by kernel_rfl) (by decide) (by decide) rfl (Or.inl ⟨by rfl, ?h5y64⟩) inv hHeld ?r5y64
          case h5y64 => (intro V' hSw; clear hSw; go_simp; try with_reducible rfl)
          clear inv
          intro inv
          try simp only [List.setIfInBounds_toArray, List.set_cons_zero, List.set_cons_succ]
          refine takeT (i := 6) (t := 53) (v := ?v6y65) rfl (by kernel_rfl) (by kernel_rfl) (by kernel_rfl) (fun _ _ _ h => h) (by kernel_rfl) (by kernel_rfl) (by decide) (by decide) rfl (Or.inl ⟨by rfl, ?h6y65⟩) inv hHeld ?r6y65
          case h6y65 => (intro V' hSw; have hq := keepC hSw hpx; clear hSw; go_simp; try with_reducible rfl)
          clear inv
          intro inv
          try simp only [List.setIfInBounds_toArray, List.set_cons_zero, List.set_cons_succ]
          refine takeT (i := 7) (t := 54) (v := ?v7y66) rfl (by kernel_rfl) (by kernel_rfl) (by kernel_rfl) (fun _ _ _ h => h) (by kernel_rfl) (by kernel_rfl) (by decide) (by decide) rfl (Or.inl ⟨by rfl, ?h7y66⟩) inv hHeld ?r7y66
          case h7y66 => (intro V' hSw; clear hSw; go_simp; try with_reducible rfl)
          clear inv
          intro inv
          try simp only [List.setIfInBounds_toArray, List.set_cons_zero, List.set_cons_succ]
          refine takeT (i := 8) (t := 55) (v := ?v8y67) rfl (by kernel_rfl) (by kernel_rfl) (by kernel_rfl) (fun _ _ _ h => h) (by kernel_rfl) (by kernel_rfl) (by decide) (by decide) rfl (Or.inl ⟨by rfl, ?h8y67⟩) inv hHeld ?r8y67
          case h8y67 => (intro V' hSw; have hq := keepC hSw hnx; clear hSw; go_simp; try with_reducible rfl)
          clear inv
          intro inv
          try simp only [List.setIfInBounds_toArray, List.set_cons_zero, List.set_cons_succ]
          refine callT (i := 9) (t := 56) (f := 20) (args := #[.pointer (some ⟨b, 0, none⟩), .string nm]) rfl (by kernel_rfl) rfl (by rfl) ?hx68 inv (by decide) ?hc68
          case hx68 => (go_simp; try rfl)
          case hc68 =>
            refine (HFF.out wx.drew HIx.out.chg.drew).mono ?_
            rintro e w1 ⟨rfl, rfl⟩
            refine ⟨_, rfl, hHeld, fun inv2 hHeld2 => ?_⟩
            clear inv hHeld
            have inv := inv2
            have hHeld := hHeld2
            clear inv2 hHeld2
            try simp only [List.setIfInBounds_toArray, List.set_cons_zero, List.set_cons_succ]
            refine takeT (i := 10) (t := 46) (v := ?v10y69) rfl (by kernel_rfl) (by kernel_rfl) (by kernel_rfl) (fun _ _ _ h => h) (by kernel_rfl) (by kernel_rfl) (by decide) (by decide) rfl (Or.inl ⟨by rfl, ?h10y69⟩) inv hHeld ?r10y69
            case h10y69 => (intro V' hSw; clear hSw; go_simp; try with_reducible rfl)
            clear inv
            intro inv
            try simp only [List.setIfInBounds_toArray, List.set_cons_zero, List.set_cons_succ]
            refine takeT (i := 11) (t := 57) (v := ?v11y70) rfl (by kernel_rfl) (by kernel_rfl) (by kernel_rfl) (fun _ _ _ h => h) (by kernel_rfl) (by kernel_rfl) (by decide) (by decide) rfl (Or.inl ⟨by rfl, ?h11y70⟩) inv hHeld ?r11y70
            case h11y70 => (intro V' hSw; clear hSw; go_simp; try with_reducible rfl)
            clear inv
            intro inv
            try simp only [List.setIfInBounds_toArray, List.set_cons_zero, List.set_cons_succ]
            refine takeT (i := 12) (t := 58) (v := ?v12y71) rfl (by kernel_rfl) (by kernel_rfl) (by kernel_rfl) (fun _ _ _ h => h) (by kernel_rfl) (by kernel_rfl) (by decide) (by decide) rfl (Or.inl ⟨by rfl, ?h12y71⟩) inv hHeld ?r12y71
            case h12y71 => (intro V' hSw; clear hSw; go_simp; try with_reducible rfl)
            clear inv
            intro inv
            try simp only [List.setIfInBounds_toArray, List.set_cons_zero, List.set_cons_succ]
            refine takeT (i := 13) (t := 11) (v := ?v13y72) rfl (by kernel_rfl) (by kernel_rfl) (by kernel_rfl) (fun _ _ _ h => h) (by kernel_rfl) (by kernel_rfl) (by decide) (by decide) rfl (Or.inl ⟨by rfl, ?h13y72⟩) inv hHeld ?r13y72
            case h13y72 => (intro V' hSw; clear hSw; go_simp; try with_reducible rfl)
            clear inv
            intro inv
            try simp only [List.setIfInBounds_toArray, List.set_cons_zero, List.set_cons_succ]
            refine lastV (i := 14) (t := 10) (v := ?vl73) (w' := wx.drew) rfl (by kernel_rfl) rfl (by rfl) ?hx73 (by decide) (by kernel_rfl) ?_
            case hx73 => (go_simp; try with_reducible rfl)
            clear inv hHeld
            have hIy := HIx.out.quiet (Chg.refl NoB wx).drew
            clear b0 b1 b2 b3 fb0 fb1 fb2 fb3 o0 o1 o2 o3 fo0 fo1 fo2 fo3 hpx hnx
            generalize wx.drew = wy at *
            have HIy := Go.Lib.hid hIy
            clear hIy
            have hpy := HPC.out wy HIy.out.chg
            obtain ⟨q0, q1, q2, q3⟩ := HQ.out wy HIy.out.chg
            have b0 : wy.cell? ⟨w.heap.size, 0, none⟩ = some (.int .i64 t.s.k) := HIy.out.box.cell 0
            have b1 : wy.cell? ⟨w.heap.size, 1, none⟩ = some (.int .i64 t.s.n) := HIy.out.box.cell 1
            have b2 : wy.cell? ⟨w.heap.size, 2, none⟩ = some (.slice t.s.nA t.s.nl t.s.nc) := HIy.out.box.cell 2
            have b3 : wy.cell? ⟨w.heap.size, 3, none⟩ = some (.slice t.s.pA t.s.pl t.s.pc) := HIy.out.box.cell 3
            have fb0 := HIy.out.box.frozen 0
            have fb1 := HIy.out.box.frozen 1
            have fb2 := HIy.out.box.frozen 2
            have fb3 := HIy.out.box.frozen 3
            have o0 : wy.cell? ⟨w.heap.size + 1, 0, none⟩ = some (.int .i64 0) := HIy.out.out.cell 0
            have o1 : wy.cell? ⟨w.heap.size + 1, 1, none⟩ = some (.int .i64 0) := HIy.out.out.cell 1
            have o2 : wy.cell? ⟨w.heap.size + 1, 2, none⟩ = some (.slice none 0 0) := HIy.out.out.cell 2
            have o3 : wy.cell? ⟨w.heap.size + 1, 3, none⟩ = some (.slice none 0 0) := HIy.out.out.cell 3
            have fo0 := HIy.out.out.frozen 0
            have fo1 := HIy.out.out.frozen 1
            have fo2 := HIy.out.out.frozen 2
            have fo3 := HIy.out.out.frozen 3
            rw [HA.out.2] at b3
            go_wp2_with fail
            refine regionT 8 ((fun V_ => Chg NoB (wy) V_)) (by kernel_rfl) (by decide) ((Chg.refl NoB wy).drew) (fun inv hHeld => ?_)
            refine takeT (i := 0) (t := 59) (v := ?v0y50) rfl (by kernel_rfl) (by kernel_rfl) (by kernel_rfl) (fun _ _ _ h => h) (by kernel_rfl) (by kernel_rfl) (by decide) (by decide) rfl (Or.inl ⟨by rfl, ?h0y50⟩) inv hHeld ?r0y50
            case h0y50 => (intro V' hSw; clear hSw; go_simp; try with_reducible rfl)
            clear inv
            intro inv
            try simp only [List.setIfInBounds_toArray, List.set_cons_zero, List.set_cons_succ]
            refine takeT (i := 1) (t := 60) (v := ?v1y51) rfl (by kernel_rfl) (by kernel_rfl) (by kernel_rfl) (fun _ _ _ h => h) (by kernel_rfl) (by kernel_rfl) (by decide) (by decide) rfl (Or.inl ⟨by rfl, ?h1y51⟩) inv hHeld ?r1y51
            case h1y51 => (intro V' hSw; have hq := keepC hSw b3; clear hSw; go_simp; try with_reducible rfl)
            clear inv
            intro inv
            try simp only [List.setIfInBounds_toArray, List.set_cons_zero, List.set_cons_succ]
            refine takeT (i := 2) (t := 61) (v := ?v2y52) rfl (by kernel_rfl) (by kernel_rfl) (by kernel_rfl) (fun _ _ _ h => h) (by kernel_rfl) (by kernel_rfl) (by decide) (by decide) rfl (Or.inl ⟨by rfl, ?h2y52⟩) inv hHeld ?r2y52
            case h2y52 => (intro V' hSw; clear hSw; go_simp; try with_reducible rfl)
            clear inv
            intro inv
            try simp only [List.setIfInBounds_toArray, List.set_cons_zero, List.set_cons_succ]
            refine takeT (i := 3) (t := 62) (v := ?v3y53) rfl (by kernel_rfl) (by kernel_rfl) (by kernel_rfl) (fun _ _ _ h => h) (by kernel_rfl) (by kernel_rfl) (by decide) (by decide) rfl (Or.inl ⟨by rfl, ?h3y53⟩) inv hHeld ?r3y53
            case h3y53 => (intro V' hSw; clear hSw; go_simp; try with_reducible rfl)
            clear inv
            intro inv
            try simp only [List.setIfInBounds_toArray, List.set_cons_zero, List.set_cons_succ]
            refine takeT (i := 4) (t := 63) (v := ?v4y54) rfl (by kernel_rfl) (by kernel_rfl) (by kernel_rfl) (fun _ _ _ h => h) (by kernel_rfl) (by kernel_rfl) (by decide) (by decide) rfl (Or.inl ⟨by rfl, ?h4y54⟩) inv hHeld ?r4y54
            case h4y54 => (intro V' hSw; clear hSw; go_simp; try with_reducible rfl)
            clear inv
            intro inv
            try simp only [List.setIfInBounds_toArray, List.set_cons_zero, List.set_cons_succ]
            refine takeT (i := 5) (t := 64) (v := ?v5y55) rfl (by kernel_rfl) (by kernel_rfl) (by kernel_rfl) (fun _ _ _ h => h) (by kernel_rfl) (by kernel_rfl) (by decide) (by decide) rfl (Or.inl ⟨by rfl, ?h5y55⟩) inv hHeld ?r5y55
            case h5y55 => (intro V' hSw; have hq := keepC hSw hpy; clear hSw; go_simp; try with_reducible rfl)
            clear inv
            intro inv
            try simp only [List.setIfInBounds_toArray, List.set_cons_zero, List.set_cons_succ]
            refine takeT (i := 6) (t := 65) (v := ?v6y56) rfl (by kernel_rfl) (by kernel_rfl) (by kernel_rfl) (fun _ _ _ h => h) (by kernel_rfl) (by kernel_rfl) (by decide) (by decide) rfl (Or.inl ⟨by rfl, ?h6y56⟩) inv hHeld ?r6y56
            case h6y56 => (intro V' hSw; clear hSw; go_simp; try with_reducible rfl)
            clear inv
            intro inv
            try simp only [List.setIfInBounds_toArray, List.set_cons_zero, List.set_cons_succ]
            refine takeT (i := 7) (t := 66) (v := ?v7y57) rfl (by kernel_rfl) (by kernel_rfl) (by kernel_rfl) (fun _ _ _ h => h) (by kernel_rfl) (by kernel_rfl) (by decide) (by decide) rfl (Or.inl ⟨by rfl, ?h7y57⟩) inv hHeld ?r7y57
            case h7y57 => (intro V' hSw; have hq0 := keepC hSw q0; have hq1 := keepC hSw q1; have hq2 := keepC hSw q2; have hq3 := keepC hSw q3; clear hSw; go_simp; try with_reducible rfl)
            clear inv
            intro inv
            try simp only [List.setIfInBounds_toArray, List.set_cons_zero, List.set_cons_succ]
            refine lastT (i := 8) (w' := (((((wy).setCell ⟨w.heap.size, 0, none⟩ (.int .i64 x.s.k)).setCell ⟨w.heap.size, 1, none⟩ (.int .i64 x.s.n)).setCell ⟨w.heap.size, 2, none⟩ (.slice x.s.nA x.s.nl x.s.nc)).setCell ⟨w.heap.size, 3, none⟩ (.slice x.s.pA x.s.pl x.s.pc)).drew) rfl (by kernel_rfl) rfl (by rfl) ?hx58 (by decide) (by kernel_rfl) ?_
            case hx58 => (go_simp; try with_reducible rfl)
            clear inv hHeld
            have hB : Blk ((((((wy).setCell ⟨w.heap.size, 0, none⟩ (.int .i64 x.s.k)).setCell ⟨w.heap.size, 1, none⟩ (.int .i64 x.s.n)).setCell ⟨w.heap.size, 2, none⟩ (.slice x.s.nA x.s.nl x.s.nc)).setCell ⟨w.heap.size, 3, none⟩ (.slice x.s.pA x.s.pl x.s.pc)).drew) w.heap.size ShT (shArr x.s) := ((((HIy.out.box.set_ 0 _).set_ 1 _).set_ 2 _).set_ 3 _).drew
            have hC : Chg (fun j => j = w.heap.size) wy ((((((wy).setCell ⟨w.heap.size, 0, none⟩ (.int .i64 x.s.k)).setCell ⟨w.heap.size, 1, none⟩ (.int .i64 x.s.n)).setCell ⟨w.heap.size, 2, none⟩ (.slice x.s.nA x.s.nl x.s.nc)).setCell ⟨w.heap.size, 3, none⟩ (.slice x.s.pA x.s.pl x.s.pc)).drew) := (((((Chg.refl (fun j => j = w.heap.size) wy).setCell (fun _ => rfl) _).setCell (fun _ => rfl) _).setCell (fun _ => rfl) _).setCell (fun _ => rfl) _).drew
            have HIz := Go.Lib.hid (HIy.out.kid HV.out.1 HV.out.2 HK.out.1 HK.out.2.1 HK.out.2.2 hC hB)
            clear hB hC
            generalize (((((wy).setCell ⟨w.heap.size, 0, none⟩ (.int .i64 x.s.k)).setCell ⟨w.heap.size, 1, none⟩ (.int .i64 x.s.n)).setCell ⟨w.heap.size, 2, none⟩ (.slice x.s.nA x.s.nl x.s.nc)).setCell ⟨w.heap.size, 3, none⟩ (.slice x.s.pA x.s.pl x.s.pc)).drew = wz at *
            go_wp2_with fail
            refine (num_c (w := wz) 0).mono ?_
            rintro e w1 ⟨rfl, rfl⟩
            go_wp2_with fail
            go_roundw
            case rel => exact ⟨i + 1, kb, x, by omega, by go_num, rfl, HIz.out⟩
            case measure => simp [intOf]; omega
      · have d8 : (t.s.k == 8) = false := by simpa using hk8
        have hTk := HOK.out.1.2.1
        have hT8 : t.T.kind ≠ 8 := by omega
        by_cases hk7 : t.T.kind = 7
        · by_cases hbad : p < 0 ∨ (t.T.n : Int) ≤ p
          · have HEL := Go.Lib.hid (fun W (hW : Chg NoB w W) => elem_arg (HVC.out.quiet hW) (HOK.out.1.1.quiet hW) hk7 hbad)
            unfold ptr at HEL
            clear hTk
            go_wp2_with fail
            refine (HEL.out wr HI.out.chg).mono ?_
            rintro e w1 ⟨rfl, rfl⟩
            go_wp2_with fail
            refine (num_c (w := wr) 2).mono ?_
            rintro e w1 ⟨rfl, rfl⟩
            go_wp2_with fail
            refine (num_c (w := wr) 2).mono ?_
            rintro e w1 ⟨rfl, rfl⟩
            go_wp2_with fail
            refine regionT 5 ((fun V_ => Chg NoB (wr) V_)) (by kernel_rfl) (by decide) ((Chg.refl NoB wr).drew) (fun inv hHeld => ?_)
            refine takeT (i := 0) (t := 86) (v := ?v0y89) rfl (by kernel_rfl) (by kernel_rfl) (by kernel_rfl) (fun _ _ _ h => h) (by kernel_rfl) (by kernel_rfl) (by decide) (by decide) rfl (Or.inl ⟨by rfl, ?h0y89⟩) inv hHeld ?r0y89
            case h0y89 => (intro V' hSw; clear hSw; go_simp; try with_reducible rfl)
            clear inv
            intro inv
            try simp only [List.setIfInBounds_toArray, List.set_cons_zero, List.set_cons_succ]
            refine takeT (i := 1) (t := 87) (v := ?v1y90) rfl (by kernel_rfl) (by kernel_rfl) (by kernel_rfl) (fun _ _ _ h => h) (by kernel_rfl) (by kernel_rfl) (by decide) (by decide) rfl (Or.inl ⟨by rfl, ?h1y90⟩) inv hHeld ?r1y90
            case h1y90 => (intro V' hSw; have hq0 := keepC hSw b0; have hq1 := keepC hSw b1; have hq2 := keepC hSw b2; have hq3 := keepC hSw b3; clear hSw; go_simp; try with_reducible rfl)
            clear inv
            intro inv
            try simp only [List.setIfInBounds_toArray, List.set_cons_zero, List.set_cons_succ]
            refine takeT (i := 2) (t := 88) (v := ?v2y91) rfl (by kernel_rfl) (by kernel_rfl) (by kernel_rfl) (fun _ _ _ h => h) (by kernel_rfl) (by kernel_rfl) (by decide) (by decide) rfl (Or.inl ⟨by rfl, ?h2y91⟩) inv hHeld ?r2y91
            case h2y91 => (intro V' hSw; clear hSw; go_simp; try with_reducible rfl)
            clear inv
            intro inv
            try simp only [List.setIfInBounds_toArray, List.set_cons_zero, List.set_cons_succ]
            refine callT (i := 3) (t := 89) (f := 14) (args := #[.int .i64 2]) rfl (by kernel_rfl) rfl (by rfl) ?hx92 inv (by decide) ?hc92
            case hx92 => (go_simp; try rfl)
            case hc92 =>
              refine (num_c (w := wr.drew) 2).mono ?_
              rintro e w1 ⟨rfl, rfl⟩
              refine ⟨_, rfl, hHeld, fun inv2 hHeld2 => ?_⟩
              clear inv hHeld
              have inv := inv2
              have hHeld := hHeld2
              clear inv2 hHeld2
              try simp only [List.setIfInBounds_toArray, List.set_cons_zero, List.set_cons_succ]
              refine takeT (i := 4) (t := 6) (v := ?v4y93) rfl (by kernel_rfl) (by kernel_rfl) (by kernel_rfl) (fun _ _ _ h => h) (by kernel_rfl) (by kernel_rfl) (by decide) (by decide) rfl (Or.inl ⟨by rfl, ?h4y93⟩) inv hHeld ?r4y93
              case h4y93 => (intro V' hSw; clear hSw; go_simp; try with_reducible rfl)
              clear inv
              intro inv
              try simp only [List.setIfInBounds_toArray, List.set_cons_zero, List.set_cons_succ]
              refine storeE (i := 5) (w' := (((((wr).setCell ⟨w.heap.size + 1, 0, none⟩ (.int .i64 t.s.k)).setCell ⟨w.heap.size + 1, 1, none⟩ (.int .i64 t.s.n)).setCell ⟨w.heap.size + 1, 2, none⟩ (.slice t.s.nA t.s.nl t.s.nc)).setCell ⟨w.heap.size + 1, 3, none⟩ (.slice t.s.pA t.s.pl t.s.pc)).drew) rfl (by kernel_rfl) rfl (by rfl) ?hx94 (by decide) ?_
              case hx94 => (go_simp; try with_reducible rfl)
              try simp only [List.setIfInBounds_toArray, List.set_cons_zero, List.set_cons_succ]
              refine lastV (i := 6) (t := 8) (v := ?vl95) (w' := (((((wr).setCell ⟨w.heap.size + 1, 0, none⟩ (.int .i64 t.s.k)).setCell ⟨w.heap.size + 1, 1, none⟩ (.int .i64 t.s.n)).setCell ⟨w.heap.size + 1, 2, none⟩ (.slice t.s.nA t.s.nl t.s.nc)).setCell ⟨w.heap.size + 1, 3, none⟩ (.slice t.s.pA t.s.pl t.s.pc)).drew) rfl (by kernel_rfl) rfl (by rfl) ?hx95 (by decide) (by kernel_rfl) ?_
              case hx95 => (go_simp; try with_reducible rfl)
              clear inv hHeld
              have hB : Blk ((((((wr).setCell ⟨w.heap.size + 1, 0, none⟩ (.int .i64 t.s.k)).setCell ⟨w.heap.size + 1, 1, none⟩ (.int .i64 t.s.n)).setCell ⟨w.heap.size + 1, 2, none⟩ (.slice t.s.nA t.s.nl t.s.nc)).setCell ⟨w.heap.size + 1, 3, none⟩ (.slice t.s.pA t.s.pl t.s.pc)).drew) (w.heap.size + 1) ShT #[.int .i64 t.s.k, .int .i64 t.s.n, .slice t.s.nA t.s.nl t.s.nc, .slice t.s.pA t.s.pl t.s.pc] := ((((HI.out.out.set_ 0 _).set_ 1 _).set_ 2 _).set_ 3 _).drew
              have hC : Chg NoB w ((((((wr).setCell ⟨w.heap.size + 1, 0, none⟩ (.int .i64 t.s.k)).setCell ⟨w.heap.size + 1, 1, none⟩ (.int .i64 t.s.n)).setCell ⟨w.heap.size + 1, 2, none⟩ (.slice t.s.nA t.s.nl t.s.nc)).setCell ⟨w.heap.size + 1, 3, none⟩ (.slice t.s.pA t.s.pl t.s.pc)).drew) := ((((HI.out.chg.setCell (fun h => absurd h (by simp)) _).setCell (fun h => absurd h (by simp)) _).setCell (fun h => absurd h (by simp)) _).setCell (fun h => absurd h (by simp)) _).drew
              have HBC := Go.Lib.hid (And.intro hB hC)
              have z0 := hB.cell 0
              have z1 := hB.cell 1
              have z2 := hB.cell 2
              have z3 := hB.cell 3
              simp only [List.getElem?_toArray, List.getElem?_cons_succ, List.getElem?_cons_zero] at z0 z1 z2 z3
              clear hB hC
              generalize (((((wr).setCell ⟨w.heap.size + 1, 0, none⟩ (.int .i64 t.s.k)).setCell ⟨w.heap.size + 1, 1, none⟩ (.int .i64 t.s.n)).setCell ⟨w.heap.size + 1, 2, none⟩ (.slice t.s.nA t.s.nl t.s.nc)).setCell ⟨w.heap.size + 1, 3, none⟩ (.slice t.s.pA t.s.pl t.s.pc)).drew = wz at *
              go_wp2_with fail
              try simp only [Exit.inBlock, Exit.then]
              refine bodyPost_ret (v := .tuple #[.pointer none, .agg #[.int .i64 t.s.k, .int .i64 t.s.n, .slice t.s.nA t.s.nl t.s.nc, .slice t.s.pA t.s.pl t.s.pc], .int .i64 2]) ?_ rfl ?_
              · rw [results_tct rfl]
                go_simp
              exact ⟨_, ⟨t.s.k, t.s.n, t.s.nA, t.s.nl, t.s.nc, t.s.pA, t.s.pl, t.s.pc⟩, _, rfl, HBC.out.2, .inl (by decide)⟩
          · obtain ⟨j, rfl⟩ : ∃ j : Nat, p = j := ⟨p.toNat, by omega⟩
            obtain ⟨kb, x, A', c', kk', hat, hka, hF⟩ := elem_at HV.out.1 hk7 (j := j) (by omega)
            have h7 : t.s.k = 7 := by omega
            have hpl1 : t.s.pl = 1 := by
              have h1 := (err_parts HI.out.er).2
              rw [h7] at h1
              have := (err7 h1).1
              rw [sizesF_len] at this
              have := HNL.out
              omega
            obtain ⟨pb, po, sv, ns', kkk, hpA, ha, q0, q1, q2, q3, hIs⟩ := HI.out.sh.part (i := 0) (by omega)
            rw [hka] at ha
            injection ha with ha
            injection ha with ha1 ha2
            injection ha2 with ha2 ha3
            subst ha1 ha2 ha3
            have HQ : Hid (∀ W, Chg NoB w W → W.cell? ⟨pb, po, none⟩ = some (.int .i64 x.s.k) ∧ W.cell? ⟨pb, po + 1, none⟩ = some (.int .i64 x.s.n) ∧ W.cell? ⟨pb, po + 2, none⟩ = some (.slice x.s.nA x.s.nl x.s.nc) ∧ W.cell? ⟨pb, po + 3, none⟩ = some (.slice x.s.pA x.s.pl x.s.pc)) := Go.Lib.hid fun W hW => by
              have h0 := keepC hW q0
              have h1 := keepC hW q1
              have h2 := keepC hW q2
              have h3 := keepC hW q3
              simp only [Nat.zero_mul, Nat.add_zero] at h0 h1 h2 h3
              exact ⟨h0, h1, h2, h3⟩
            obtain ⟨q0', q1', q2', q3'⟩ := HQ.out wr HI.out.chg
            clear q0 q1 q2 q3
            have HEL := Go.Lib.hid hF
            have HK := Go.Lib.hid (And.intro hat (And.intro hka hIs))
            rw [hpA, hpl1] at b3
            clear hat hka hF hIs hTk h7
            unfold ptr at HEL
            go_wp2_with fail
            refine (HEL.out wr HI.out.chg).mono ?_
            rintro e w1 ⟨rfl, rfl⟩
            go_wp2_with fail
            refine (num_c (w := wr) 0).mono ?_
            rintro e w1 ⟨rfl, rfl⟩
            go_wp2_with fail
            have hB : Blk ((((((wr).setCell ⟨w.heap.size, 0, none⟩ (.int .i64 x.s.k)).setCell ⟨w.heap.size, 1, none⟩ (.int .i64 x.s.n)).setCell ⟨w.heap.size, 2, none⟩ (.slice x.s.nA x.s.nl x.s.nc)).setCell ⟨w.heap.size, 3, none⟩ (.slice x.s.pA x.s.pl x.s.pc))) w.heap.size ShT (shArr x.s) := ((((HI.out.box.set_ 0 _).set_ 1 _).set_ 2 _).set_ 3 _)
            have hC : Chg (fun j => j = w.heap.size) wr ((((((wr).setCell ⟨w.heap.size, 0, none⟩ (.int .i64 x.s.k)).setCell ⟨w.heap.size, 1, none⟩ (.int .i64 x.s.n)).setCell ⟨w.heap.size, 2, none⟩ (.slice x.s.nA x.s.nl x.s.nc)).setCell ⟨w.heap.size, 3, none⟩ (.slice x.s.pA x.s.pl x.s.pc))) := (((((Chg.refl (fun j => j = w.heap.size) wr).setCell (fun _ => rfl) _).setCell (fun _ => rfl) _).setCell (fun _ => rfl) _).setCell (fun _ => rfl) _)
            have HIz := Go.Lib.hid (HI.out.kid HV.out.1 HV.out.2 HK.out.1 HK.out.2.1 HK.out.2.2 hC hB)
            clear hB hC
            generalize (((((wr).setCell ⟨w.heap.size, 0, none⟩ (.int .i64 x.s.k)).setCell ⟨w.heap.size, 1, none⟩ (.int .i64 x.s.n)).setCell ⟨w.heap.size, 2, none⟩ (.slice x.s.nA x.s.nl x.s.nc)).setCell ⟨w.heap.size, 3, none⟩ (.slice x.s.pA x.s.pl x.s.pc)) = wz at *
            go_wp2_with fail
            refine (num_c (w := wz) 0).mono ?_
            rintro e w1 ⟨rfl, rfl⟩
            go_wp2_with fail
            go_roundw
            case rel => exact ⟨i + 1, kb, x, by omega, by go_num, rfl, HIz.out⟩
            case measure => simp [intOf]; omega
        · have HEL := Go.Lib.hid (fun W (hW : Chg NoB w W) => elem_state (HVC.out.quiet hW) (HOK.out.1.1.quiet hW) hk7 (i := p))
          unfold ptr at HEL
          clear hTk
          go_wp2_with fail
          refine (HEL.out wr HI.out.chg).mono ?_
          rintro e w1 ⟨rfl, rfl⟩
          go_wp2_with fail
          refine (num_c (w := wr) 7).mono ?_
          rintro e w1 ⟨rfl, rfl⟩
          go_wp2_with fail
          refine (num_c (w := wr) 7).mono ?_
          rintro e w1 ⟨rfl, rfl⟩
          go_wp2_with fail
          refine regionT 5 ((fun V_ => Chg NoB (wr) V_)) (by kernel_rfl) (by decide) ((Chg.refl NoB wr).drew) (fun inv hHeld => ?_)
          refine takeT (i := 0) (t := 86) (v := ?v0y96) rfl (by kernel_rfl) (by kernel_rfl) (by kernel_rfl) (fun _ _ _ h => h) (by kernel_rfl) (by kernel_rfl) (by decide) (by decide) rfl (Or.inl ⟨by rfl, ?h0y96⟩) inv hHeld ?r0y96
          case h0y96 => (intro V' hSw; clear hSw; go_simp; try with_reducible rfl)
          clear inv
          intro inv
          try simp only [List.setIfInBounds_toArray, List.set_cons_zero, List.set_cons_succ]
          refine takeT (i := 1) (t := 87) (v := ?v1y97) rfl (by kernel_rfl) (by kernel_rfl) (by kernel_rfl) (fun _ _ _ h => h) (by kernel_rfl) (by kernel_rfl) (by decide) (by decide) rfl (Or.inl ⟨by rfl, ?h1y97⟩) inv hHeld ?r1y97
          case h1y97 => (intro V' hSw; have hq0 := keepC hSw b0; have hq1 := keepC hSw b1; have hq2 := keepC hSw b2; have hq3 := keepC hSw b3; clear hSw; go_simp; try with_reducible rfl)
          clear inv
          intro inv
          try simp only [List.setIfInBounds_toArray, List.set_cons_zero, List.set_cons_succ]
          refine takeT (i := 2) (t := 88) (v := ?v2y98) rfl (by kernel_rfl) (by kernel_rfl) (by kernel_rfl) (fun _ _ _ h => h) (by kernel_rfl) (by kernel_rfl) (by decide) (by decide) rfl (Or.inl ⟨by rfl, ?h2y98⟩) inv hHeld ?r2y98
          case h2y98 => (intro V' hSw; clear hSw; go_simp; try with_reducible rfl)
          clear inv
          intro inv
          try simp only [List.setIfInBounds_toArray, List.set_cons_zero, List.set_cons_succ]
          refine callT (i := 3) (t := 89) (f := 14) (args := #[.int .i64 7]) rfl (by kernel_rfl) rfl (by rfl) ?hx99 inv (by decide) ?hc99
          case hx99 => (go_simp; try rfl)
          case hc99 =>
            refine (num_c (w := wr.drew) 7).mono ?_
            rintro e w1 ⟨rfl, rfl⟩
            refine ⟨_, rfl, hHeld, fun inv2 hHeld2 => ?_⟩
            clear inv hHeld
            have inv := inv2
            have hHeld := hHeld2
            clear inv2 hHeld2
            try simp only [List.setIfInBounds_toArray, List.set_cons_zero, List.set_cons_succ]
            refine takeT (i := 4) (t := 6) (v := ?v4y100) rfl (by kernel_rfl) (by kernel_rfl) (by kernel_rfl) (fun _ _ _ h => h) (by kernel_rfl) (by kernel_rfl) (by decide) (by decide) rfl (Or.inl ⟨by rfl, ?h4y100⟩) inv hHeld ?r4y100
            case h4y100 => (intro V' hSw; clear hSw; go_simp; try with_reducible rfl)
            clear inv
            intro inv
            try simp only [List.setIfInBounds_toArray, List.set_cons_zero, List.set_cons_succ]
            refine storeE (i := 5) (w' := (((((wr).setCell ⟨w.heap.size + 1, 0, none⟩ (.int .i64 t.s.k)).setCell ⟨w.heap.size + 1, 1, none⟩ (.int .i64 t.s.n)).setCell ⟨w.heap.size + 1, 2, none⟩ (.slice t.s.nA t.s.nl t.s.nc)).setCell ⟨w.heap.size + 1, 3, none⟩ (.slice t.s.pA t.s.pl t.s.pc)).drew) rfl (by kernel_rfl) rfl (by rfl) ?hx101 (by decide) ?_
            case hx101 => (go_simp; try with_reducible rfl)
            try simp only [List.setIfInBounds_toArray, List.set_cons_zero, List.set_cons_succ]
            refine lastV (i := 6) (t := 8) (v := ?vl102) (w' := (((((wr).setCell ⟨w.heap.size + 1, 0, none⟩ (.int .i64 t.s.k)).setCell ⟨w.heap.size + 1, 1, none⟩ (.int .i64 t.s.n)).setCell ⟨w.heap.size + 1, 2, none⟩ (.slice t.s.nA t.s.nl t.s.nc)).setCell ⟨w.heap.size + 1, 3, none⟩ (.slice t.s.pA t.s.pl t.s.pc)).drew) rfl (by kernel_rfl) rfl (by rfl) ?hx102 (by decide) (by kernel_rfl) ?_
            case hx102 => (go_simp; try with_reducible rfl)
            clear inv hHeld
            have hB : Blk ((((((wr).setCell ⟨w.heap.size + 1, 0, none⟩ (.int .i64 t.s.k)).setCell ⟨w.heap.size + 1, 1, none⟩ (.int .i64 t.s.n)).setCell ⟨w.heap.size + 1, 2, none⟩ (.slice t.s.nA t.s.nl t.s.nc)).setCell ⟨w.heap.size + 1, 3, none⟩ (.slice t.s.pA t.s.pl t.s.pc)).drew) (w.heap.size + 1) ShT #[.int .i64 t.s.k, .int .i64 t.s.n, .slice t.s.nA t.s.nl t.s.nc, .slice t.s.pA t.s.pl t.s.pc] := ((((HI.out.out.set_ 0 _).set_ 1 _).set_ 2 _).set_ 3 _).drew
            have hC : Chg NoB w ((((((wr).setCell ⟨w.heap.size + 1, 0, none⟩ (.int .i64 t.s.k)).setCell ⟨w.heap.size + 1, 1, none⟩ (.int .i64 t.s.n)).setCell ⟨w.heap.size + 1, 2, none⟩ (.slice t.s.nA t.s.nl t.s.nc)).setCell ⟨w.heap.size + 1, 3, none⟩ (.slice t.s.pA t.s.pl t.s.pc)).drew) := ((((HI.out.chg.setCell (fun h => absurd h (by simp)) _).setCell (fun h => absurd h (by simp)) _).setCell (fun h => absurd h (by simp)) _).setCell (fun h => absurd h (by simp)) _).drew
            have HBC := Go.Lib.hid (And.intro hB hC)
            have z0 := hB.cell 0
            have z1 := hB.cell 1
            have z2 := hB.cell 2
            have z3 := hB.cell 3
            simp only [List.getElem?_toArray, List.getElem?_cons_succ, List.getElem?_cons_zero] at z0 z1 z2 z3
            clear hB hC
            generalize (((((wr).setCell ⟨w.heap.size + 1, 0, none⟩ (.int .i64 t.s.k)).setCell ⟨w.heap.size + 1, 1, none⟩ (.int .i64 t.s.n)).setCell ⟨w.heap.size + 1, 2, none⟩ (.slice t.s.nA t.s.nl t.s.nc)).setCell ⟨w.heap.size + 1, 3, none⟩ (.slice t.s.pA t.s.pl t.s.pc)).drew = wz at *
            go_wp2_with fail
            try simp only [Exit.inBlock, Exit.then]
            refine bodyPost_ret (v := .tuple #[.pointer none, .agg #[.int .i64 t.s.k, .int .i64 t.s.n, .slice t.s.nA t.s.nl t.s.nc, .slice t.s.pA t.s.pl t.s.pc], .int .i64 7]) ?_ rfl ?_
            · rw [results_tct rfl]
              go_simp
            exact ⟨_, ⟨t.s.k, t.s.n, t.s.nA, t.s.nl, t.s.nc, t.s.pA, t.s.pl, t.s.pc⟩, _, rfl, HBC.out.2, .inl (by decide)⟩
    · obtain rfl : i = pn := by omega
      go_wp2_with fail
      refine regionT 3 ((fun V_ => Chg NoB (wr) V_)) (by kernel_rfl) (by decide) ((Chg.refl NoB wr).drew) (fun inv hHeld => ?_)
      refine takeT (i := 0) (t := 91) (v := ?v0y1) rfl (by kernel_rfl) (by kernel_rfl) (by kernel_rfl) (fun _ _ _ h => h) (by kernel_rfl) (by kernel_rfl) (by decide) (by decide) rfl (Or.inl ⟨by rfl, ?h0y1⟩) inv hHeld ?r0y1
      case h0y1 => (intro V' hSw; clear hSw; go_simp; try with_reducible rfl)
      clear inv
      intro inv
      try simp only [List.setIfInBounds_toArray, List.set_cons_zero, List.set_cons_succ]
      refine takeT (i := 1) (t := 92) (v := ?v1y2) rfl (by kernel_rfl) (by kernel_rfl) (by kernel_rfl) (fun _ _ _ h => h) (by kernel_rfl) (by kernel_rfl) (by decide) (by decide) rfl (Or.inl ⟨by rfl, ?h1y2⟩) inv hHeld ?r1y2
      case h1y2 => (intro V' hSw; have hq0 := keepC hSw b0; have hq1 := keepC hSw b1; have hq2 := keepC hSw b2; have hq3 := keepC hSw b3; clear hSw; go_simp; try with_reducible rfl)
      clear inv
      intro inv
      try simp only [List.setIfInBounds_toArray, List.set_cons_zero, List.set_cons_succ]
      refine takeT (i := 2) (t := 6) (v := ?v2y3) rfl (by kernel_rfl) (by kernel_rfl) (by kernel_rfl) (fun _ _ _ h => h) (by kernel_rfl) (by kernel_rfl) (by decide) (by decide) rfl (Or.inl ⟨by rfl, ?h2y3⟩) inv hHeld ?r2y3
      case h2y3 => (intro V' hSw; clear hSw; go_simp; try with_reducible rfl)
      clear inv
      intro inv
      try simp only [List.setIfInBounds_toArray, List.set_cons_zero, List.set_cons_succ]
      refine storeE (i := 3) (w' := (((((wr).setCell ⟨w.heap.size + 1, 0, none⟩ (.int .i64 t.s.k)).setCell ⟨w.heap.size + 1, 1, none⟩ (.int .i64 t.s.n)).setCell ⟨w.heap.size + 1, 2, none⟩ (.slice t.s.nA t.s.nl t.s.nc)).setCell ⟨w.heap.size + 1, 3, none⟩ (.slice t.s.pA t.s.pl t.s.pc)).drew) rfl (by kernel_rfl) rfl (by rfl) ?hx4 (by decide) ?_
      case hx4 => (go_simp; try with_reducible rfl)
      try simp only [List.setIfInBounds_toArray, List.set_cons_zero, List.set_cons_succ]
      refine lastV (i := 4) (t := 8) (v := ?vl5) (w' := (((((wr).setCell ⟨w.heap.size + 1, 0, none⟩ (.int .i64 t.s.k)).setCell ⟨w.heap.size + 1, 1, none⟩ (.int .i64 t.s.n)).setCell ⟨w.heap.size + 1, 2, none⟩ (.slice t.s.nA t.s.nl t.s.nc)).setCell ⟨w.heap.size + 1, 3, none⟩ (.slice t.s.pA t.s.pl t.s.pc)).drew) rfl (by kernel_rfl) rfl (by rfl) ?hx5 (by decide) (by kernel_rfl) ?_
      case hx5 => (go_simp; try with_reducible rfl)
      clear inv hHeld
      have hB : Blk ((((((wr).setCell ⟨w.heap.size + 1, 0, none⟩ (.int .i64 t.s.k)).setCell ⟨w.heap.size + 1, 1, none⟩ (.int .i64 t.s.n)).setCell ⟨w.heap.size + 1, 2, none⟩ (.slice t.s.nA t.s.nl t.s.nc)).setCell ⟨w.heap.size + 1, 3, none⟩ (.slice t.s.pA t.s.pl t.s.pc)).drew) (w.heap.size + 1) ShT #[.int .i64 t.s.k, .int .i64 t.s.n, .slice t.s.nA t.s.nl t.s.nc, .slice t.s.pA t.s.pl t.s.pc] := ((((HI.out.out.set_ 0 _).set_ 1 _).set_ 2 _).set_ 3 _).drew
      have hC : Chg NoB w ((((((wr).setCell ⟨w.heap.size + 1, 0, none⟩ (.int .i64 t.s.k)).setCell ⟨w.heap.size + 1, 1, none⟩ (.int .i64 t.s.n)).setCell ⟨w.heap.size + 1, 2, none⟩ (.slice t.s.nA t.s.nl t.s.nc)).setCell ⟨w.heap.size + 1, 3, none⟩ (.slice t.s.pA t.s.pl t.s.pc)).drew) := ((((HI.out.chg.setCell (fun h => absurd h (by simp)) _).setCell (fun h => absurd h (by simp)) _).setCell (fun h => absurd h (by simp)) _).setCell (fun h => absurd h (by simp)) _).drew
      have HBC := Go.Lib.hid (And.intro hB hC)
      have z0 := hB.cell 0
      have z1 := hB.cell 1
      have z2 := hB.cell 2
      have z3 := hB.cell 3
      simp only [List.getElem?_toArray, List.getElem?_cons_succ, List.getElem?_cons_zero] at z0 z1 z2 z3
      clear hB hC
      generalize (((((wr).setCell ⟨w.heap.size + 1, 0, none⟩ (.int .i64 t.s.k)).setCell ⟨w.heap.size + 1, 1, none⟩ (.int .i64 t.s.n)).setCell ⟨w.heap.size + 1, 2, none⟩ (.slice t.s.nA t.s.nl t.s.nc)).setCell ⟨w.heap.size + 1, 3, none⟩ (.slice t.s.pA t.s.pl t.s.pc)).drew = wz at *
      go_wp2_with fail
      try simp only [Exit.inBlock, Exit.then]
      refine bodyPost_ret (v := .tuple #[.pointer (some ⟨b, 0, none⟩), .agg #[.int .i64 t.s.k, .int .i64 t.s.n, .slice t.s.nA t.s.nl t.s.nc, .slice t.s.pA t.s.pl t.s.pc], .int .i64 0]) ?_ rfl ?_
      · rw [results_tct rfl]
        go_simp
      obtain ⟨A2, c2, k2, hv2, hf2, hv3⟩ := HI.out.at_
      exact ⟨_, ⟨t.s.k, t.s.n, t.s.nA, t.s.nl, t.s.nc, t.s.pA, t.s.pl, t.s.pc⟩, _, rfl, HBC.out.2, .inr ⟨rfl, b, t, A2, c2, k2, rfl, hv3, hf2⟩⟩
end
end Go.Proofs.Ytholeloedihkoaa
