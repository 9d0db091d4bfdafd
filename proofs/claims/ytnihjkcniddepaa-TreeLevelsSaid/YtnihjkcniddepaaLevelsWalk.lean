/- What is proved: the walk of the law TreeLevels. Conditions: the library's variable holds a number. -/
import Derived.Test.YtnihjkcniddepaaLevelsLaw
import Derived.Deep.RegionHeld3
namespace Go.Proofs.Ytnihjkcniddepaa
open Go.RowKit
@[reducible] def W0 (w : World) (da db : Own) (kA kB : Option Addr) (na ca nb cb : Nat) : World :=
  (w.alloc (.cells #[.int .i64 da.kind, .string da.nm, .int .u32 da.val, .bool da.mark, .slice kA na ca] 28)).alloc (.cells #[.int .i64 db.kind, .string db.nm, .int .u32 db.val, .bool db.mark, .slice kB nb cb] 28)
/-- both boxes of the law's nodes -/
theorem box10 {w W : World} {da db : Own} {kA kB : Option Addr} {na ca nb cb : Nat} (hc : Chg NoB (W0 w da db kA kB na ca nb cb) W) :
    (W.cell? ⟨w.heap.size, 0, none⟩ = some (.int .i64 da.kind) ∧ W.cell? ⟨w.heap.size, 1, none⟩ = some (.string da.nm) ∧ W.cell? ⟨w.heap.size, 2, none⟩ = some (.int .u32 da.val) ∧ W.cell? ⟨w.heap.size, 3, none⟩ = some (.bool da.mark) ∧ W.cell? ⟨w.heap.size, 4, none⟩ = some (.slice kA na ca)) ∧
    (W.cell? ⟨w.heap.size + 1, 0, none⟩ = some (.int .i64 db.kind) ∧ W.cell? ⟨w.heap.size + 1, 1, none⟩ = some (.string db.nm) ∧ W.cell? ⟨w.heap.size + 1, 2, none⟩ = some (.int .u32 db.val) ∧ W.cell? ⟨w.heap.size + 1, 3, none⟩ = some (.bool db.mark) ∧ W.cell? ⟨w.heap.size + 1, 4, none⟩ = some (.slice kB nb cb)) :=
  ⟨blk5 ((Blk.new _ _ _).alloc _) hc, blk5 (Blk.at_ _ _ _ _ (by simp)) hc⟩
theorem W0_chg (w : World) (da db : Own) (kA kB : Option Addr) (na ca nb cb : Nat) : Chg NoB w (W0 w da db kA kB na ca nb cb) := ((Chg.refl _ _).alloc _).alloc _
section
variable (da db : Own) (ka kb : F) (kA kB : Option Addr) (na ca nb cb : Nat) (op : ByteArray) (w : World)
set_option maxHeartbeats 1000000 in
theorem levels_small (hA : IsN w da ka kA na ca) (hB : IsN w db kb kB nb cb) (hop : op.size ≤ maxLen) (hv : Var0 w) (h : bigT da ka 300 < 0 ∨ (0 ≤ bigT da ka 300 ∧ bigT db kb 300 < 0) ∨ (0 ≤ bigT da ka 300 ∧ 0 ≤ bigT db kb 300 ∧ 100 < op.size)) :
    Calls Try.prog 4 #[nodeV da kA na ca, nodeV db kB nb cb, .string op] w fun e w' => e = .returned (.bool true) ∧ Chg NoB w w' := by
  have hw := W0_chg w da db kA kB na ca nb cb
  have HA : Hid (∀ W, Chg NoB (W0 w da db kA kB na ca nb cb) W → Calls Try.prog 14 #[nodeV da kA na ca, .int .i64 300] W fun e w' => e = .returned (.int .i64 (bigT da ka 300)) ∧ Chg NoB W w') := Go.Lib.hid fun W hW => Big_c da ka kA na ca W 300 (hA.chg (hw.trans hW)) (by omega)
  have HB : Hid (∀ W, Chg NoB (W0 w da db kA kB na ca nb cb) W → Calls Try.prog 14 #[nodeV db kB nb cb, .int .i64 300] W fun e w' => e = .returned (.int .i64 (bigT db kb 300)) ∧ Chg NoB W w') := Go.Lib.hid fun W hW => Big_c db kb kB nb cb W 300 (hB.chg (hw.trans hW)) (by omega)
  have HK : Hid (∀ W, Chg NoB (W0 w da db kA kB na ca nb cb) W → Calls Try.prog 9 #[] W fun e w' => e = .returned (.bool true) ∧ Chg NoB W w') := Go.Lib.hid fun W hW => known_c W (hv.chg (hw.trans hW))
  unfold maxLen at hop
  have H0 := Go.Lib.hid hw
  generalize bigT da ka 300 = x at *
  generalize bigT db kb 300 = y at *
  clear hA hB hv hw
  have HC : Hid (Chg NoB (W0 w da db kA kB na ca nb cb) (W0 w da db kA kB na ca nb cb)) := Go.Lib.hid (Chg.refl _ _)
  rcases h with h | ⟨h1, h2⟩ | ⟨h1, h2, h3⟩
  all_goals
    go_enter Try.func4, Try.ntmps4
    go_wp2_with (first
      | (go_at_call 14
         (with_reducible refine (HA.out _ HC.out).mono ?_)
         rintro e w1 ⟨rfl, hc⟩
         have HC := Go.Lib.hid (HC.out.trans hc)
         clear hc
         obtain ⟨⟨a0, a1, a2, a3, a4⟩, b0, b1, b2, b3, b4⟩ := box10 HC.out)
      | (go_at_call 14
         (with_reducible refine (HB.out _ HC.out).mono ?_)
         rintro e w1 ⟨rfl, hc⟩
         have HC := Go.Lib.hid (HC.out.trans hc)
         clear hc
         obtain ⟨⟨a0, a1, a2, a3, a4⟩, b0, b1, b2, b3, b4⟩ := box10 HC.out)
      | (go_at_call 9
         refine (HK.out _ HC.out).mono ?_
         rintro e w1 ⟨rfl, hc⟩
         have HC := Go.Lib.hid (HC.out.trans hc)
         clear hc))
    go_ret
    exact ⟨rfl, H0.out.trans HC.out⟩
set_option maxHeartbeats 4000000 in
theorem levels_main (hA : IsN w da ka kA na ca) (hB : IsN w db kb kB nb cb) (hop : op.size ≤ 100) (hv : Var0 w) (h1 : 0 ≤ bigT da ka 300) (h2 : 0 ≤ bigT db kb 300) :
    Calls Try.prog 4 #[nodeV da kA na ca, nodeV db kB nb cb, .string op] w fun e w' => e = .returned (.bool true) ∧ Chg NoB w w' := by
  have hw := W0_chg w da db kA kB na ca nb cb
  have HA : Hid (∀ W, Chg NoB (W0 w da db kA kB na ca nb cb) W → Calls Try.prog 14 #[nodeV da kA na ca, .int .i64 300] W fun e w' => e = .returned (.int .i64 (bigT da ka 300)) ∧ Chg NoB W w') := Go.Lib.hid fun W hW => Big_c da ka kA na ca W 300 (hA.chg (hw.trans hW)) (by omega)
  have HB : Hid (∀ W, Chg NoB (W0 w da db kA kB na ca nb cb) W → Calls Try.prog 14 #[nodeV db kB nb cb, .int .i64 300] W fun e w' => e = .returned (.int .i64 (bigT db kb 300)) ∧ Chg NoB W w') := Go.Lib.hid fun W hW => Big_c db kb kB nb cb W 300 (hB.chg (hw.trans hW)) (by omega)
  have HK : Hid (∀ W, Chg NoB (W0 w da db kA kB na ca nb cb) W → Calls Try.prog 9 #[] W fun e w' => e = .returned (.bool true) ∧ Chg NoB W w') := Go.Lib.hid fun W hW => known_c W (hv.chg (hw.trans hW))
  have HLA : Hid (∀ W, Chg NoB (W0 w da db kA kB na ca nb cb) W → Calls Try.prog 15 #[nodeV da kA na ca] W fun e w' => e = .returned (.int .i64 (levT da ka)) ∧ Chg NoB W w') := Go.Lib.hid fun W hW => Level_c da ka kA na ca W (hv.chg (hw.trans hW)) (hA.chg (hw.trans hW))
  have HLB : Hid (∀ W, Chg NoB (W0 w da db kA kB na ca nb cb) W → Calls Try.prog 15 #[nodeV db kB nb cb] W fun e w' => e = .returned (.int .i64 (levT db kb)) ∧ Chg NoB W w') := Go.Lib.hid fun W hW => Level_c db kb kB nb cb W (hv.chg (hw.trans hW)) (hB.chg (hw.trans hW))
  have HR : Hid (∀ W, Calls Try.prog 16 #[.string op] W fun e w' => e = .returned (.int .i64 (opL op)) ∧ Chg NoB W w') := Go.Lib.hid fun W => Rank_c op W
  have HV : Hid (∀ W, Chg NoB (W0 w da db kA kB na ca nb cb) W → Var0 W ∧ IsN W da ka kA na ca ∧ IsN W db kb kB nb cb) := Go.Lib.hid fun W hW => ⟨hv.chg (hw.trans hW), hA.chg (hw.trans hW), hB.chg (hw.trans hW)⟩
  have H0 := Go.Lib.hid hw
  have hx : levT da ka = -1 ∨ levT da ka = 0 ∨ levT da ka = 1 ∨ levT da ka = 2 ∨ levT da ka = 3 := levT_range _ _
  have hy : -1 ≤ levT db kb ∧ levT db kb ≤ 3 := by have := levT_range db kb; omega
  have hr : 0 ≤ opL op ∧ opL op ≤ 3 := by have := opL_range op; omega
  have Hop := Go.Lib.hid (lev_op op da db ka kb)
  have Hpar := Go.Lib.hid (lev_par da ka)
  have Hnot := Go.Lib.hid (lev_not da ka)
  have Hmul := Go.Lib.hid (lev_mul da ka)
  generalize bigT da ka 300 = bx at *
  generalize bigT db kb 300 = bby at *
  clear hA hB hv hw
  have HC : Hid (Chg NoB (W0 w da db kA kB na ca nb cb) (W0 w da db kA kB na ca nb cb)) := Go.Lib.hid (Chg.refl _ _)
  go_enter Try.func4, Try.ntmps4
  go_wp2_with fail
  refine (HA.out _ HC.out).mono ?_
  rintro e w1 ⟨rfl, hc⟩
  have HC := Go.Lib.hid (HC.out.trans hc)
  clear hc
  obtain ⟨⟨a0, a1, a2, a3, a4⟩, b0, b1, b2, b3, b4⟩ := box10 HC.out
  go_wp2_with fail
  refine (HB.out _ HC.out).mono ?_
  rintro e w1 ⟨rfl, hc⟩
  have HC := Go.Lib.hid (HC.out.trans hc)
  clear hc a0 a1 a2 a3 a4 b0 b1 b2 b3 b4
  go_wp2_with fail
  set_option maxRecDepth 100000 in
  go_region_held3 (fun w' => (w'.cell? ⟨w.heap.size, 0, none⟩ = some (.int .i64 da.kind) ∧ w'.cell? ⟨w.heap.size, 1, none⟩ = some (.string da.nm) ∧ w'.cell? ⟨w.heap.size, 2, none⟩ = some (.int .u32 da.val) ∧ w'.cell? ⟨w.heap.size, 3, none⟩ = some (.bool da.mark) ∧ w'.cell? ⟨w.heap.size, 4, none⟩ = some (.slice kA na ca)) ∧ (w'.cell? ⟨w.heap.size + 1, 0, none⟩ = some (.int .i64 db.kind) ∧ w'.cell? ⟨w.heap.size + 1, 1, none⟩ = some (.string db.nm) ∧ w'.cell? ⟨w.heap.size + 1, 2, none⟩ = some (.int .u32 db.val) ∧ w'.cell? ⟨w.heap.size + 1, 3, none⟩ = some (.bool db.mark) ∧ w'.cell? ⟨w.heap.size + 1, 4, none⟩ = some (.slice kB nb cb)))
    (first
      | exact box10 (HC.out.drew)
      | exact box10 (HC.out.drew.trans hc1)
      | exact box10 ((HC.out.drew.trans hc1).trans hc2)
      | exact box10 (((HC.out.drew.trans hc1).trans hc2).trans hc3))
    (first
      | (go_at_call 15; (with_reducible refine (HLA.out _ (HC.out.drew)).mono ?_); rintro e w2 ⟨rfl, hc1⟩)
      | (go_at_call 15; (with_reducible refine (HLB.out _ (HC.out.drew.trans hc1)).mono ?_); rintro e w3 ⟨rfl, hc2⟩)
      | (go_at_call 16; (with_reducible refine (HR.out _).mono ?_); rintro e w4 ⟨rfl, hc3⟩))
  have HC := Go.Lib.hid (((HC.out.drew.trans hc1).trans hc2).trans hc3)
  clear hc1 hc2 hc3
  obtain ⟨⟨a0, a1, a2, a3, a4⟩, b0, b1, b2, b3, b4⟩ := box10 HC.out
  go_wp2_with fail
  have hopOk : OwnOk (opD op) := ownOk_lit 35 op 0 false (by omega) hop (by omega)
  refine (Level_c (opD op) (.cons da ka (.cons db kb .nil)) (some ⟨w4.heap.size, 0, none⟩) 2 2 _ ((HV.out _ HC.out).1.chg ((Chg.refl _ _).alloc _))
    ⟨hopOk, Nat.le_refl _, by unfold maxLen; omega, isL2 (T := 28) (Blk.new _ _ _) ((HV.out _ HC.out).2.1.alloc _) ((HV.out _ HC.out).2.2.alloc _)⟩).mono ?_
  rintro e w5 ⟨rfl, hc⟩
  have HC := Go.Lib.hid ((HC.out.alloc _).trans hc)
  clear hc hopOk a0 a1 a2 a3 a4 b0 b1 b2 b3 b4
  obtain ⟨⟨a0, a1, a2, a3, a4⟩, b0, b1, b2, b3, b4⟩ := box10 HC.out
  generalize hn : levT (opD op) (.cons da ka (.cons db kb .nil)) = n at Hop
  generalize hm : levT (opD ⟨#[42]⟩) (.cons parD (.cons da ka .nil) (.cons parD (.cons da ka .nil) .nil)) = lm at Hmul
  generalize hpp : levT parD (.cons da ka .nil) = lp at Hpar
  generalize hnn : levT notD (.cons da ka .nil) = lnn at Hnot
  generalize hxx : levT da ka = x at hx Hop Hpar Hnot Hmul
  generalize hyy : levT db kb = y at hy Hop
  generalize hrr : opL op = r at hr Hop
  clear hn hyy hrr
  have Hpp := Go.Lib.hid hpp
  have Hnn := Go.Lib.hid hnn
  have Hmm := Go.Lib.hid hm
  have Hxx := Go.Lib.hid hxx
  clear hpp hnn hm hxx
  have HI : Hid (IsN w5 da ka kA na ca) := Go.Lib.hid (HV.out _ HC.out).2.1
  have HV5 : Hid (∀ W, Chg NoB w5 W → Var0 W) := Go.Lib.hid fun W hW => (HV.out _ HC.out).1.chg hW
  have HK5 : Hid (∀ W, Chg NoB w5 W → Calls Try.prog 9 #[] W fun e w' => e = .returned (.bool true) ∧ Chg NoB W w') := Go.Lib.hid fun W hW => HK.out _ (HC.out.trans hW)
  have HE := Go.Lib.hid (H0.out.trans HC.out)
  have ha : ∀ o1 o2 : Obj, ((w5.alloc o1).alloc o2).cell? ⟨w.heap.size, 0, none⟩ = some (.int .i64 da.kind) ∧ ((w5.alloc o1).alloc o2).cell? ⟨w.heap.size, 1, none⟩ = some (.string da.nm) ∧ ((w5.alloc o1).alloc o2).cell? ⟨w.heap.size, 2, none⟩ = some (.int .u32 da.val) ∧ ((w5.alloc o1).alloc o2).cell? ⟨w.heap.size, 3, none⟩ = some (.bool da.mark) ∧ ((w5.alloc o1).alloc o2).cell? ⟨w.heap.size, 4, none⟩ = some (.slice kA na ca) := fun o1 o2 => (box10 ((HC.out.alloc o1).alloc o2)).1
  have g0 := fun o1 o2 => (ha o1 o2).1
  have g1 := fun o1 o2 => (ha o1 o2).2.1
  have g2 := fun o1 o2 => (ha o1 o2).2.2.1
  have g3 := fun o1 o2 => (ha o1 o2).2.2.2.1
  have g4 := fun o1 o2 => (ha o1 o2).2.2.2.2
  clear ha
  clear HK HA HB HLA HLB HR HV H0 HC b0 b1 b2 b3 b4
  by_cases hf : Fits x y r
  · have hn := Hop.out.1 hf
    subst hn
    clear Hop
    unfold Fits at hf
    obtain ⟨f1, f2, f3, f4, f5⟩ := hf
    rcases hx with rfl | rfl | rfl | rfl | rfl
    · exfalso; omega
    rotate_right
    · exfalso; omega
    all_goals
      have hlp := Hpar.out
      have hln := Hnot.out
      have hlm := Hmul.out
      simp only [Int.reduceNeg, Int.reduceLE, if_true, if_false, Int.reduceEq] at hlp hln hlm
      subst hlp hln hlm
      clear Hpar Hnot Hmul
      go_wp2_with fail
      exact (by
          generalize hW : ((((((w5.alloc _).alloc _).alloc _).alloc _).alloc _).alloc _) = W
          have hch : Chg NoB w5 W := by
            rw [← hW]
            exact ((((((Chg.refl _ _).alloc _).alloc _).alloc _).alloc _).alloc _).alloc _
          have b0 : Blk W w5.heap.size 28 #[.int .i64 da.kind, .string da.nm, .int .u32 da.val, .bool da.mark, .slice kA na ca] := by
            rw [← hW]
            exact (((((Blk.at_ _ _ _ _ rfl).alloc _).alloc _).alloc _).alloc _).alloc _
          have b1 : Blk W (w5.heap.size + 1) 28 #[.int .i64 32, .string ⟨#[]⟩, .int .u32 0, .bool false, .slice (some ⟨w5.heap.size, 0, none⟩) 1 1] := by
            rw [← hW]
            exact ((((Blk.at_ _ _ _ _ (by simp)).alloc _).alloc _).alloc _).alloc _
          have b2 : Blk W (w5.heap.size + 1 + 1) 28 #[.int .i64 da.kind, .string da.nm, .int .u32 da.val, .bool da.mark, .slice kA na ca] := by
            rw [← hW]
            exact (((Blk.at_ _ _ _ _ (by simp)).alloc _).alloc _).alloc _
          have b3 : Blk W (w5.heap.size + 1 + 1 + 1) 28 #[.int .i64 33, .string ⟨#[]⟩, .int .u32 0, .bool false, .slice (some ⟨w5.heap.size + 1 + 1, 0, none⟩) 1 1] := by
            rw [← hW]
            exact ((Blk.at_ _ _ _ _ (by simp)).alloc _).alloc _
          have b4 : Blk W (w5.heap.size + 1 + 1 + 1 + 1) 28 #[.int .i64 32, .string ⟨#[]⟩, .int .u32 0, .bool false, .slice (some ⟨w5.heap.size, 0, none⟩) 1 1, .int .i64 32, .string ⟨#[]⟩, .int .u32 0, .bool false, .slice (some ⟨w5.heap.size, 0, none⟩) 1 1] := by
            rw [← hW]
            exact (Blk.at_ _ _ _ _ (by simp)).alloc _
          have b5 : Blk W (w5.heap.size + 1 + 1 + 1 + 1 + 1) 28 #[.int .i64 35, .string ⟨#[42]⟩, .int .u32 0, .bool false, .slice (some ⟨w5.heap.size + 1 + 1 + 1 + 1, 0, none⟩) 2 2] := by
            rw [← hW]
            exact Blk.at_ _ _ _ _ (by simp)
          clear hW
          have nA := HI.out.chg hch
          have m1 : 1 ≤ maxLen := by unfold maxLen; omega
          have m2 : 2 ≤ maxLen := by unfold maxLen; omega
          have nP : IsN W parD (.cons da ka .nil) (some ⟨w5.heap.size, 0, none⟩) 1 1 := ⟨ownOk_lit _ _ _ _ (by decide) (by decide) (by decide), by omega, m1, isL1 b0 nA⟩
          have nN : IsN W notD (.cons da ka .nil) (some ⟨w5.heap.size + 1 + 1, 0, none⟩) 1 1 := ⟨ownOk_lit _ _ _ _ (by decide) (by decide) (by decide), by omega, m1, isL1 b2 nA⟩
          have nM : IsN W (opD ⟨#[42]⟩) (.cons parD (.cons da ka .nil) (.cons parD (.cons da ka .nil) .nil)) (some ⟨w5.heap.size + 1 + 1 + 1 + 1, 0, none⟩) 2 2 := ⟨ownOk_lit _ _ _ _ (by decide) (by decide) (by decide), by omega, m2, isL2 (d0 := parD) (d1 := parD) b4 nP nP⟩
          have HVW : Hid (∀ W1, Chg NoB W W1 → Var0 W1) := Go.Lib.hid fun W1 h => HV5.out _ (hch.trans h)
          have NP := Go.Lib.hid nP
          have NN := Go.Lib.hid nN
          have NM := Go.Lib.hid nM
          have B3 := Go.Lib.hid b3
          have B5 := Go.Lib.hid b5
          have Hch := Go.Lib.hid hch
          clear b0 b1 b2 b3 b4 b5 nA nP nN nM m1 m2 hch
          refine (Level_c parD (.cons da ka .nil) _ 1 1 W (HVW.out W (Chg.refl _ _)) NP.out).mono ?_
          rw [Hpp.out]
          rintro e w6 ⟨rfl, h6⟩
          obtain ⟨c0, c1, c2, c3, c4⟩ := blk5 B3.out h6
          have H6 := Go.Lib.hid h6
          clear h6
          go_wp2_with fail
          refine (Level_c notD (.cons da ka .nil) _ 1 1 w6 (HVW.out _ H6.out) (NN.out.chg H6.out)).mono ?_
          rw [Hnn.out]
          rintro e w7 ⟨rfl, h7⟩
          have H7 := Go.Lib.hid (H6.out.trans h7)
          clear h7 c0 c1 c2 c3 c4
          obtain ⟨c0, c1, c2, c3, c4⟩ := blk5 B5.out H7.out
          go_wp2_with fail
          refine (Level_c (opD ⟨#[42]⟩) (.cons parD (.cons da ka .nil) (.cons parD (.cons da ka .nil) .nil)) _ 2 2 w7 (HVW.out _ H7.out) (NM.out.chg H7.out)).mono ?_
          rw [Hmm.out]
          rintro e w8 ⟨rfl, h8⟩
          have H8 := Go.Lib.hid (H7.out.trans h8)
          clear h8
          go_wp2_with fail
          refine (HK5.out _ (Hch.out.trans H8.out)).mono ?_
          rintro e w9 ⟨rfl, h9⟩
          go_wp2_with fail
          go_ret
          exact ⟨rfl, HE.out.trans ((Hch.out.trans H8.out).trans h9)⟩)
  · have hn := Hop.out.2 hf
    subst hn
    clear Hop
    unfold Fits at hf
    rcases hx with rfl | rfl | rfl | rfl | rfl
    all_goals
      have hlp := Hpar.out
      have hln := Hnot.out
      have hlm := Hmul.out
      simp only [Int.reduceNeg, Int.reduceLE, if_true, if_false, Int.reduceEq] at hlp hln hlm
      subst hlp hln hlm
      clear Hpar Hnot Hmul
      go_wp2_with fail
      all_goals first
        | (exfalso; omega)
        | exact (by
          generalize hW : ((((((w5.alloc _).alloc _).alloc _).alloc _).alloc _).alloc _) = W
          have hch : Chg NoB w5 W := by
            rw [← hW]
            exact ((((((Chg.refl _ _).alloc _).alloc _).alloc _).alloc _).alloc _).alloc _
          have b0 : Blk W w5.heap.size 28 #[.int .i64 da.kind, .string da.nm, .int .u32 da.val, .bool da.mark, .slice kA na ca] := by
            rw [← hW]
            exact (((((Blk.at_ _ _ _ _ rfl).alloc _).alloc _).alloc _).alloc _).alloc _
          have b1 : Blk W (w5.heap.size + 1) 28 #[.int .i64 32, .string ⟨#[]⟩, .int .u32 0, .bool false, .slice (some ⟨w5.heap.size, 0, none⟩) 1 1] := by
            rw [← hW]
            exact ((((Blk.at_ _ _ _ _ (by simp)).alloc _).alloc _).alloc _).alloc _
          have b2 : Blk W (w5.heap.size + 1 + 1) 28 #[.int .i64 da.kind, .string da.nm, .int .u32 da.val, .bool da.mark, .slice kA na ca] := by
            rw [← hW]
            exact (((Blk.at_ _ _ _ _ (by simp)).alloc _).alloc _).alloc _
          have b3 : Blk W (w5.heap.size + 1 + 1 + 1) 28 #[.int .i64 33, .string ⟨#[]⟩, .int .u32 0, .bool false, .slice (some ⟨w5.heap.size + 1 + 1, 0, none⟩) 1 1] := by
            rw [← hW]
            exact ((Blk.at_ _ _ _ _ (by simp)).alloc _).alloc _
          have b4 : Blk W (w5.heap.size + 1 + 1 + 1 + 1) 28 #[.int .i64 32, .string ⟨#[]⟩, .int .u32 0, .bool false, .slice (some ⟨w5.heap.size, 0, none⟩) 1 1, .int .i64 32, .string ⟨#[]⟩, .int .u32 0, .bool false, .slice (some ⟨w5.heap.size, 0, none⟩) 1 1] := by
            rw [← hW]
            exact (Blk.at_ _ _ _ _ (by simp)).alloc _
          have b5 : Blk W (w5.heap.size + 1 + 1 + 1 + 1 + 1) 28 #[.int .i64 35, .string ⟨#[42]⟩, .int .u32 0, .bool false, .slice (some ⟨w5.heap.size + 1 + 1 + 1 + 1, 0, none⟩) 2 2] := by
            rw [← hW]
            exact Blk.at_ _ _ _ _ (by simp)
          clear hW
          have nA := HI.out.chg hch
          have m1 : 1 ≤ maxLen := by unfold maxLen; omega
          have m2 : 2 ≤ maxLen := by unfold maxLen; omega
          have nP : IsN W parD (.cons da ka .nil) (some ⟨w5.heap.size, 0, none⟩) 1 1 := ⟨ownOk_lit _ _ _ _ (by decide) (by decide) (by decide), by omega, m1, isL1 b0 nA⟩
          have nN : IsN W notD (.cons da ka .nil) (some ⟨w5.heap.size + 1 + 1, 0, none⟩) 1 1 := ⟨ownOk_lit _ _ _ _ (by decide) (by decide) (by decide), by omega, m1, isL1 b2 nA⟩
          have nM : IsN W (opD ⟨#[42]⟩) (.cons parD (.cons da ka .nil) (.cons parD (.cons da ka .nil) .nil)) (some ⟨w5.heap.size + 1 + 1 + 1 + 1, 0, none⟩) 2 2 := ⟨ownOk_lit _ _ _ _ (by decide) (by decide) (by decide), by omega, m2, isL2 (d0 := parD) (d1 := parD) b4 nP nP⟩
          have HVW : Hid (∀ W1, Chg NoB W W1 → Var0 W1) := Go.Lib.hid fun W1 h => HV5.out _ (hch.trans h)
          have NP := Go.Lib.hid nP
          have NN := Go.Lib.hid nN
          have NM := Go.Lib.hid nM
          have B3 := Go.Lib.hid b3
          have B5 := Go.Lib.hid b5
          have Hch := Go.Lib.hid hch
          clear b0 b1 b2 b3 b4 b5 nA nP nN nM m1 m2 hch
          refine (Level_c parD (.cons da ka .nil) _ 1 1 W (HVW.out W (Chg.refl _ _)) NP.out).mono ?_
          rw [Hpp.out]
          rintro e w6 ⟨rfl, h6⟩
          obtain ⟨c0, c1, c2, c3, c4⟩ := blk5 B3.out h6
          have H6 := Go.Lib.hid h6
          clear h6
          go_wp2_with fail
          refine (Level_c notD (.cons da ka .nil) _ 1 1 w6 (HVW.out _ H6.out) (NN.out.chg H6.out)).mono ?_
          rw [Hnn.out]
          rintro e w7 ⟨rfl, h7⟩
          have H7 := Go.Lib.hid (H6.out.trans h7)
          clear h7 c0 c1 c2 c3 c4
          obtain ⟨c0, c1, c2, c3, c4⟩ := blk5 B5.out H7.out
          go_wp2_with fail
          refine (Level_c (opD ⟨#[42]⟩) (.cons parD (.cons da ka .nil) (.cons parD (.cons da ka .nil) .nil)) _ 2 2 w7 (HVW.out _ H7.out) (NM.out.chg H7.out)).mono ?_
          rw [Hmm.out]
          rintro e w8 ⟨rfl, h8⟩
          have H8 := Go.Lib.hid (H7.out.trans h8)
          clear h8
          go_wp2_with fail
          refine (HK5.out _ (Hch.out.trans H8.out)).mono ?_
          rintro e w9 ⟨rfl, h9⟩
          go_wp2_with fail
          go_ret
          exact ⟨rfl, HE.out.trans ((Hch.out.trans H8.out).trans h9)⟩)
end
end Go.Proofs.Ytnihjkcniddepaa
