/- What is proved: the walk of the law TreePuts. Conditions: the library's variable holds a number. -/
import Derived.Test.YtnihjkcniddepaaSwap3
import Derived.Test.YtnihjkcniddepaaBig
import Derived.Test.YtnihjkcniddepaaCopy
import Derived.Test.YtnihjkcniddepaaOpen
namespace Go.Proofs.Ytnihjkcniddepaa
open Go.RowKit
section
variable (d0 d1 d2 : Own) (k0 k1 k2 : F) (A0 A1 A2 : Option Addr) (n0 n1 n2 c0 c1 c2 : Nat) (a : Int) (w : World)
@[reducible] def P0 : World := ((w.alloc (.cells #[.int .i64 d0.kind, .string d0.nm, .int .u32 d0.val, .bool d0.mark, .slice A0 n0 c0] NT)).alloc (.cells #[.int .i64 d1.kind, .string d1.nm, .int .u32 d1.val, .bool d1.mark, .slice A1 n1 c1] NT)).alloc (.cells #[.int .i64 d2.kind, .string d2.nm, .int .u32 d2.val, .bool d2.mark, .slice A2 n2 c2] NT)
theorem P0_chg : Chg NoB w (P0 d0 d1 d2 A0 A1 A2 n0 n1 n2 c0 c1 c2 w) := (((Chg.refl _ _).alloc _).alloc _).alloc _
variable {d0 d1 d2 A0 A1 A2 n0 n1 n2 c0 c1 c2 w} in
/-- the three boxes of the law's nodes -/
theorem box15 {W : World} (hc : Chg NoB (P0 d0 d1 d2 A0 A1 A2 n0 n1 n2 c0 c1 c2 w) W) :
    (W.cell? ⟨w.heap.size, 0, none⟩ = some (.int .i64 d0.kind) ∧ W.cell? ⟨w.heap.size, 1, none⟩ = some (.string d0.nm) ∧ W.cell? ⟨w.heap.size, 2, none⟩ = some (.int .u32 d0.val) ∧ W.cell? ⟨w.heap.size, 3, none⟩ = some (.bool d0.mark) ∧ W.cell? ⟨w.heap.size, 4, none⟩ = some (.slice A0 n0 c0)) ∧ (W.cell? ⟨w.heap.size + 1, 0, none⟩ = some (.int .i64 d1.kind) ∧ W.cell? ⟨w.heap.size + 1, 1, none⟩ = some (.string d1.nm) ∧ W.cell? ⟨w.heap.size + 1, 2, none⟩ = some (.int .u32 d1.val) ∧ W.cell? ⟨w.heap.size + 1, 3, none⟩ = some (.bool d1.mark) ∧ W.cell? ⟨w.heap.size + 1, 4, none⟩ = some (.slice A1 n1 c1)) ∧ (W.cell? ⟨w.heap.size + 2, 0, none⟩ = some (.int .i64 d2.kind) ∧ W.cell? ⟨w.heap.size + 2, 1, none⟩ = some (.string d2.nm) ∧ W.cell? ⟨w.heap.size + 2, 2, none⟩ = some (.int .u32 d2.val) ∧ W.cell? ⟨w.heap.size + 2, 3, none⟩ = some (.bool d2.mark) ∧ W.cell? ⟨w.heap.size + 2, 4, none⟩ = some (.slice A2 n2 c2)) :=
  ⟨blk5 (((Blk.new _ _ _).alloc _).alloc _) hc, blk5 ((Blk.at_ _ _ _ _ (by simp)).alloc _) hc, blk5 (Blk.at_ _ _ _ _ (by simp)) hc⟩
set_option maxHeartbeats 1000000 in
theorem puts_0 (h0 : IsN w d0 k0 A0 n0 c0) (h1 : IsN w d1 k1 A1 n1 c1) (h2 : IsN w d2 k2 A2 n2 c2) (hv : Var0 w) (t0 : bigT d0 k0 300 < 0) :
    Calls Try.prog 7 #[nodeV d0 A0 n0 c0, nodeV d1 A1 n1 c1, nodeV d2 A2 n2 c2, .int .i64 a] w fun e w' => e = .returned (.bool true) ∧ Chg NoB w w' := by
  have hw := P0_chg d0 d1 d2 A0 A1 A2 n0 n1 n2 c0 c1 c2 w
  have HB0 : Hid (∀ W, Chg NoB (P0 d0 d1 d2 A0 A1 A2 n0 n1 n2 c0 c1 c2 w) W → Calls Try.prog 14 #[nodeV d0 A0 n0 c0, .int .i64 300] W fun e w' => e = .returned (.int .i64 (bigT d0 k0 300)) ∧ Chg NoB W w') := Go.Lib.hid fun W hW => Big_c d0 k0 A0 n0 c0 W 300 (h0.chg (hw.trans hW)) (by omega)
  have HB1 : Hid (∀ W, Chg NoB (P0 d0 d1 d2 A0 A1 A2 n0 n1 n2 c0 c1 c2 w) W → Calls Try.prog 14 #[nodeV d1 A1 n1 c1, .int .i64 300] W fun e w' => e = .returned (.int .i64 (bigT d1 k1 300)) ∧ Chg NoB W w') := Go.Lib.hid fun W hW => Big_c d1 k1 A1 n1 c1 W 300 (h1.chg (hw.trans hW)) (by omega)
  have HB2 : Hid (∀ W, Chg NoB (P0 d0 d1 d2 A0 A1 A2 n0 n1 n2 c0 c1 c2 w) W → Calls Try.prog 14 #[nodeV d2 A2 n2 c2, .int .i64 300] W fun e w' => e = .returned (.int .i64 (bigT d2 k2 300)) ∧ Chg NoB W w') := Go.Lib.hid fun W hW => Big_c d2 k2 A2 n2 c2 W 300 (h2.chg (hw.trans hW)) (by omega)
  have HM0 : Hid (∀ W, Chg NoB (P0 d0 d1 d2 A0 A1 A2 n0 n1 n2 c0 c1 c2 w) W → Calls Try.prog 27 #[nodeV d0 A0 n0 c0] W fun e w' => e = .returned (.bool (mayT d0 k0)) ∧ Chg NoB W w') := Go.Lib.hid fun W hW => May_c d0 k0 A0 n0 c0 W (hv.chg (hw.trans hW)) (h0.chg (hw.trans hW))
  have HM1 : Hid (∀ W, Chg NoB (P0 d0 d1 d2 A0 A1 A2 n0 n1 n2 c0 c1 c2 w) W → Calls Try.prog 28 #[nodeV d1 A1 n1 c1] W fun e w' => e = .returned (.bool (expT d1 k1)) ∧ Chg NoB W w') := Go.Lib.hid fun W hW => MayExpr_c d1 k1 A1 n1 c1 W (hv.chg (hw.trans hW)) (h1.chg (hw.trans hW))
  have HM2 : Hid (∀ W, Chg NoB (P0 d0 d1 d2 A0 A1 A2 n0 n1 n2 c0 c1 c2 w) W → Calls Try.prog 29 #[nodeV d2 A2 n2 c2] W fun e w' => e = .returned (.bool (stmtsT d2 k2)) ∧ Chg NoB W w') := Go.Lib.hid fun W hW => MayStmts_c d2 k2 A2 n2 c2 W (hv.chg (hw.trans hW)) (h2.chg (hw.trans hW))
  have HK : Hid (∀ W, Chg NoB (P0 d0 d1 d2 A0 A1 A2 n0 n1 n2 c0 c1 c2 w) W → Calls Try.prog 9 #[] W fun e w' => e = .returned (.bool true) ∧ Chg NoB W w') := Go.Lib.hid fun W hW => known_c W (hv.chg (hw.trans hW))
  have H0 := Go.Lib.hid hw
  generalize bigT d0 k0 300 = x at *
  generalize bigT d1 k1 300 = y at *
  generalize bigT d2 k2 300 = z at *
  clear h0 h1 h2 hv hw
  have HC : Hid (Chg NoB (P0 d0 d1 d2 A0 A1 A2 n0 n1 n2 c0 c1 c2 w) (P0 d0 d1 d2 A0 A1 A2 n0 n1 n2 c0 c1 c2 w)) := Go.Lib.hid (Chg.refl _ _)
  go_enter Try.func7, Try.ntmps7
  obtain ⟨⟨a0, a1, a2, a3, a4⟩, ⟨b0, b1, b2, b3, b4⟩, e0, e1, e2, e3, e4⟩ := box15 HC.out
  go_wp2_with fail
  refine (HB0.out _ HC.out).mono ?_
  rintro e wN ⟨rfl, hc⟩
  clear a0 a1 a2 a3 a4 b0 b1 b2 b3 b4 e0 e1 e2 e3 e4
  have HC := Go.Lib.hid (HC.out.trans hc)
  clear hc
  obtain ⟨⟨a0, a1, a2, a3, a4⟩, ⟨b0, b1, b2, b3, b4⟩, e0, e1, e2, e3, e4⟩ := box15 HC.out
  go_wp2_with fail
  refine (HK.out _ HC.out).mono ?_
  rintro e wN ⟨rfl, hc⟩
  go_wp2_with fail
  go_ret
  exact ⟨rfl, H0.out.trans (HC.out.trans hc)⟩
set_option maxHeartbeats 1000000 in
theorem puts_1 (h0 : IsN w d0 k0 A0 n0 c0) (h1 : IsN w d1 k1 A1 n1 c1) (h2 : IsN w d2 k2 A2 n2 c2) (hv : Var0 w) (t0 : 0 ≤ bigT d0 k0 300) (t1 : bigT d1 k1 300 < 0) :
    Calls Try.prog 7 #[nodeV d0 A0 n0 c0, nodeV d1 A1 n1 c1, nodeV d2 A2 n2 c2, .int .i64 a] w fun e w' => e = .returned (.bool true) ∧ Chg NoB w w' := by
  have hw := P0_chg d0 d1 d2 A0 A1 A2 n0 n1 n2 c0 c1 c2 w
  have HB0 : Hid (∀ W, Chg NoB (P0 d0 d1 d2 A0 A1 A2 n0 n1 n2 c0 c1 c2 w) W → Calls Try.prog 14 #[nodeV d0 A0 n0 c0, .int .i64 300] W fun e w' => e = .returned (.int .i64 (bigT d0 k0 300)) ∧ Chg NoB W w') := Go.Lib.hid fun W hW => Big_c d0 k0 A0 n0 c0 W 300 (h0.chg (hw.trans hW)) (by omega)
  have HB1 : Hid (∀ W, Chg NoB (P0 d0 d1 d2 A0 A1 A2 n0 n1 n2 c0 c1 c2 w) W → Calls Try.prog 14 #[nodeV d1 A1 n1 c1, .int .i64 300] W fun e w' => e = .returned (.int .i64 (bigT d1 k1 300)) ∧ Chg NoB W w') := Go.Lib.hid fun W hW => Big_c d1 k1 A1 n1 c1 W 300 (h1.chg (hw.trans hW)) (by omega)
  have HB2 : Hid (∀ W, Chg NoB (P0 d0 d1 d2 A0 A1 A2 n0 n1 n2 c0 c1 c2 w) W → Calls Try.prog 14 #[nodeV d2 A2 n2 c2, .int .i64 300] W fun e w' => e = .returned (.int .i64 (bigT d2 k2 300)) ∧ Chg NoB W w') := Go.Lib.hid fun W hW => Big_c d2 k2 A2 n2 c2 W 300 (h2.chg (hw.trans hW)) (by omega)
  have HM0 : Hid (∀ W, Chg NoB (P0 d0 d1 d2 A0 A1 A2 n0 n1 n2 c0 c1 c2 w) W → Calls Try.prog 27 #[nodeV d0 A0 n0 c0] W fun e w' => e = .returned (.bool (mayT d0 k0)) ∧ Chg NoB W w') := Go.Lib.hid fun W hW => May_c d0 k0 A0 n0 c0 W (hv.chg (hw.trans hW)) (h0.chg (hw.trans hW))
  have HM1 : Hid (∀ W, Chg NoB (P0 d0 d1 d2 A0 A1 A2 n0 n1 n2 c0 c1 c2 w) W → Calls Try.prog 28 #[nodeV d1 A1 n1 c1] W fun e w' => e = .returned (.bool (expT d1 k1)) ∧ Chg NoB W w') := Go.Lib.hid fun W hW => MayExpr_c d1 k1 A1 n1 c1 W (hv.chg (hw.trans hW)) (h1.chg (hw.trans hW))
  have HM2 : Hid (∀ W, Chg NoB (P0 d0 d1 d2 A0 A1 A2 n0 n1 n2 c0 c1 c2 w) W → Calls Try.prog 29 #[nodeV d2 A2 n2 c2] W fun e w' => e = .returned (.bool (stmtsT d2 k2)) ∧ Chg NoB W w') := Go.Lib.hid fun W hW => MayStmts_c d2 k2 A2 n2 c2 W (hv.chg (hw.trans hW)) (h2.chg (hw.trans hW))
  have HK : Hid (∀ W, Chg NoB (P0 d0 d1 d2 A0 A1 A2 n0 n1 n2 c0 c1 c2 w) W → Calls Try.prog 9 #[] W fun e w' => e = .returned (.bool true) ∧ Chg NoB W w') := Go.Lib.hid fun W hW => known_c W (hv.chg (hw.trans hW))
  have H0 := Go.Lib.hid hw
  generalize bigT d0 k0 300 = x at *
  generalize bigT d1 k1 300 = y at *
  generalize bigT d2 k2 300 = z at *
  clear h0 h1 h2 hv hw
  have HC : Hid (Chg NoB (P0 d0 d1 d2 A0 A1 A2 n0 n1 n2 c0 c1 c2 w) (P0 d0 d1 d2 A0 A1 A2 n0 n1 n2 c0 c1 c2 w)) := Go.Lib.hid (Chg.refl _ _)
  go_enter Try.func7, Try.ntmps7
  obtain ⟨⟨a0, a1, a2, a3, a4⟩, ⟨b0, b1, b2, b3, b4⟩, e0, e1, e2, e3, e4⟩ := box15 HC.out
  go_wp2_with fail
  refine (HB0.out _ HC.out).mono ?_
  rintro e wN ⟨rfl, hc⟩
  clear a0 a1 a2 a3 a4 b0 b1 b2 b3 b4 e0 e1 e2 e3 e4
  have HC := Go.Lib.hid (HC.out.trans hc)
  clear hc
  obtain ⟨⟨a0, a1, a2, a3, a4⟩, ⟨b0, b1, b2, b3, b4⟩, e0, e1, e2, e3, e4⟩ := box15 HC.out
  go_wp2_with fail
  refine (HB1.out _ HC.out).mono ?_
  rintro e wN ⟨rfl, hc⟩
  clear a0 a1 a2 a3 a4 b0 b1 b2 b3 b4 e0 e1 e2 e3 e4
  have HC := Go.Lib.hid (HC.out.trans hc)
  clear hc
  obtain ⟨⟨a0, a1, a2, a3, a4⟩, ⟨b0, b1, b2, b3, b4⟩, e0, e1, e2, e3, e4⟩ := box15 HC.out
  go_wp2_with fail
  refine (HK.out _ HC.out).mono ?_
  rintro e wN ⟨rfl, hc⟩
  go_wp2_with fail
  go_ret
  exact ⟨rfl, H0.out.trans (HC.out.trans hc)⟩
set_option maxHeartbeats 1000000 in
theorem puts_2 (h0 : IsN w d0 k0 A0 n0 c0) (h1 : IsN w d1 k1 A1 n1 c1) (h2 : IsN w d2 k2 A2 n2 c2) (hv : Var0 w) (t0 : 0 ≤ bigT d0 k0 300) (t1 : 0 ≤ bigT d1 k1 300) (t2 : bigT d2 k2 300 < 0) :
    Calls Try.prog 7 #[nodeV d0 A0 n0 c0, nodeV d1 A1 n1 c1, nodeV d2 A2 n2 c2, .int .i64 a] w fun e w' => e = .returned (.bool true) ∧ Chg NoB w w' := by
  have hw := P0_chg d0 d1 d2 A0 A1 A2 n0 n1 n2 c0 c1 c2 w
  have HB0 : Hid (∀ W, Chg NoB (P0 d0 d1 d2 A0 A1 A2 n0 n1 n2 c0 c1 c2 w) W → Calls Try.prog 14 #[nodeV d0 A0 n0 c0, .int .i64 300] W fun e w' => e = .returned (.int .i64 (bigT d0 k0 300)) ∧ Chg NoB W w') := Go.Lib.hid fun W hW => Big_c d0 k0 A0 n0 c0 W 300 (h0.chg (hw.trans hW)) (by omega)
  have HB1 : Hid (∀ W, Chg NoB (P0 d0 d1 d2 A0 A1 A2 n0 n1 n2 c0 c1 c2 w) W → Calls Try.prog 14 #[nodeV d1 A1 n1 c1, .int .i64 300] W fun e w' => e = .returned (.int .i64 (bigT d1 k1 300)) ∧ Chg NoB W w') := Go.Lib.hid fun W hW => Big_c d1 k1 A1 n1 c1 W 300 (h1.chg (hw.trans hW)) (by omega)
  have HB2 : Hid (∀ W, Chg NoB (P0 d0 d1 d2 A0 A1 A2 n0 n1 n2 c0 c1 c2 w) W → Calls Try.prog 14 #[nodeV d2 A2 n2 c2, .int .i64 300] W fun e w' => e = .returned (.int .i64 (bigT d2 k2 300)) ∧ Chg NoB W w') := Go.Lib.hid fun W hW => Big_c d2 k2 A2 n2 c2 W 300 (h2.chg (hw.trans hW)) (by omega)
  have HM0 : Hid (∀ W, Chg NoB (P0 d0 d1 d2 A0 A1 A2 n0 n1 n2 c0 c1 c2 w) W → Calls Try.prog 27 #[nodeV d0 A0 n0 c0] W fun e w' => e = .returned (.bool (mayT d0 k0)) ∧ Chg NoB W w') := Go.Lib.hid fun W hW => May_c d0 k0 A0 n0 c0 W (hv.chg (hw.trans hW)) (h0.chg (hw.trans hW))
  have HM1 : Hid (∀ W, Chg NoB (P0 d0 d1 d2 A0 A1 A2 n0 n1 n2 c0 c1 c2 w) W → Calls Try.prog 28 #[nodeV d1 A1 n1 c1] W fun e w' => e = .returned (.bool (expT d1 k1)) ∧ Chg NoB W w') := Go.Lib.hid fun W hW => MayExpr_c d1 k1 A1 n1 c1 W (hv.chg (hw.trans hW)) (h1.chg (hw.trans hW))
  have HM2 : Hid (∀ W, Chg NoB (P0 d0 d1 d2 A0 A1 A2 n0 n1 n2 c0 c1 c2 w) W → Calls Try.prog 29 #[nodeV d2 A2 n2 c2] W fun e w' => e = .returned (.bool (stmtsT d2 k2)) ∧ Chg NoB W w') := Go.Lib.hid fun W hW => MayStmts_c d2 k2 A2 n2 c2 W (hv.chg (hw.trans hW)) (h2.chg (hw.trans hW))
  have HK : Hid (∀ W, Chg NoB (P0 d0 d1 d2 A0 A1 A2 n0 n1 n2 c0 c1 c2 w) W → Calls Try.prog 9 #[] W fun e w' => e = .returned (.bool true) ∧ Chg NoB W w') := Go.Lib.hid fun W hW => known_c W (hv.chg (hw.trans hW))
  have H0 := Go.Lib.hid hw
  generalize bigT d0 k0 300 = x at *
  generalize bigT d1 k1 300 = y at *
  generalize bigT d2 k2 300 = z at *
  clear h0 h1 h2 hv hw
  have HC : Hid (Chg NoB (P0 d0 d1 d2 A0 A1 A2 n0 n1 n2 c0 c1 c2 w) (P0 d0 d1 d2 A0 A1 A2 n0 n1 n2 c0 c1 c2 w)) := Go.Lib.hid (Chg.refl _ _)
  go_enter Try.func7, Try.ntmps7
  obtain ⟨⟨a0, a1, a2, a3, a4⟩, ⟨b0, b1, b2, b3, b4⟩, e0, e1, e2, e3, e4⟩ := box15 HC.out
  go_wp2_with fail
  refine (HB0.out _ HC.out).mono ?_
  rintro e wN ⟨rfl, hc⟩
  clear a0 a1 a2 a3 a4 b0 b1 b2 b3 b4 e0 e1 e2 e3 e4
  have HC := Go.Lib.hid (HC.out.trans hc)
  clear hc
  obtain ⟨⟨a0, a1, a2, a3, a4⟩, ⟨b0, b1, b2, b3, b4⟩, e0, e1, e2, e3, e4⟩ := box15 HC.out
  go_wp2_with fail
  refine (HB1.out _ HC.out).mono ?_
  rintro e wN ⟨rfl, hc⟩
  clear a0 a1 a2 a3 a4 b0 b1 b2 b3 b4 e0 e1 e2 e3 e4
  have HC := Go.Lib.hid (HC.out.trans hc)
  clear hc
  obtain ⟨⟨a0, a1, a2, a3, a4⟩, ⟨b0, b1, b2, b3, b4⟩, e0, e1, e2, e3, e4⟩ := box15 HC.out
  go_wp2_with fail
  refine (HB2.out _ HC.out).mono ?_
  rintro e wN ⟨rfl, hc⟩
  clear a0 a1 a2 a3 a4 b0 b1 b2 b3 b4 e0 e1 e2 e3 e4
  have HC := Go.Lib.hid (HC.out.trans hc)
  clear hc
  obtain ⟨⟨a0, a1, a2, a3, a4⟩, ⟨b0, b1, b2, b3, b4⟩, e0, e1, e2, e3, e4⟩ := box15 HC.out
  go_wp2_with fail
  refine (HK.out _ HC.out).mono ?_
  rintro e wN ⟨rfl, hc⟩
  go_wp2_with fail
  go_ret
  exact ⟨rfl, H0.out.trans (HC.out.trans hc)⟩
set_option maxHeartbeats 1000000 in
theorem puts_3 (h0 : IsN w d0 k0 A0 n0 c0) (h1 : IsN w d1 k1 A1 n1 c1) (h2 : IsN w d2 k2 A2 n2 c2) (hv : Var0 w) (t0 : 0 ≤ bigT d0 k0 300) (t1 : 0 ≤ bigT d1 k1 300) (t2 : 0 ≤ bigT d2 k2 300) (t3 : mayT d0 k0 = false) :
    Calls Try.prog 7 #[nodeV d0 A0 n0 c0, nodeV d1 A1 n1 c1, nodeV d2 A2 n2 c2, .int .i64 a] w fun e w' => e = .returned (.bool true) ∧ Chg NoB w w' := by
  have hw := P0_chg d0 d1 d2 A0 A1 A2 n0 n1 n2 c0 c1 c2 w
  have HB0 : Hid (∀ W, Chg NoB (P0 d0 d1 d2 A0 A1 A2 n0 n1 n2 c0 c1 c2 w) W → Calls Try.prog 14 #[nodeV d0 A0 n0 c0, .int .i64 300] W fun e w' => e = .returned (.int .i64 (bigT d0 k0 300)) ∧ Chg NoB W w') := Go.Lib.hid fun W hW => Big_c d0 k0 A0 n0 c0 W 300 (h0.chg (hw.trans hW)) (by omega)
  have HB1 : Hid (∀ W, Chg NoB (P0 d0 d1 d2 A0 A1 A2 n0 n1 n2 c0 c1 c2 w) W → Calls Try.prog 14 #[nodeV d1 A1 n1 c1, .int .i64 300] W fun e w' => e = .returned (.int .i64 (bigT d1 k1 300)) ∧ Chg NoB W w') := Go.Lib.hid fun W hW => Big_c d1 k1 A1 n1 c1 W 300 (h1.chg (hw.trans hW)) (by omega)
  have HB2 : Hid (∀ W, Chg NoB (P0 d0 d1 d2 A0 A1 A2 n0 n1 n2 c0 c1 c2 w) W → Calls Try.prog 14 #[nodeV d2 A2 n2 c2, .int .i64 300] W fun e w' => e = .returned (.int .i64 (bigT d2 k2 300)) ∧ Chg NoB W w') := Go.Lib.hid fun W hW => Big_c d2 k2 A2 n2 c2 W 300 (h2.chg (hw.trans hW)) (by omega)
  have HM0 : Hid (∀ W, Chg NoB (P0 d0 d1 d2 A0 A1 A2 n0 n1 n2 c0 c1 c2 w) W → Calls Try.prog 27 #[nodeV d0 A0 n0 c0] W fun e w' => e = .returned (.bool (mayT d0 k0)) ∧ Chg NoB W w') := Go.Lib.hid fun W hW => May_c d0 k0 A0 n0 c0 W (hv.chg (hw.trans hW)) (h0.chg (hw.trans hW))
  have HM1 : Hid (∀ W, Chg NoB (P0 d0 d1 d2 A0 A1 A2 n0 n1 n2 c0 c1 c2 w) W → Calls Try.prog 28 #[nodeV d1 A1 n1 c1] W fun e w' => e = .returned (.bool (expT d1 k1)) ∧ Chg NoB W w') := Go.Lib.hid fun W hW => MayExpr_c d1 k1 A1 n1 c1 W (hv.chg (hw.trans hW)) (h1.chg (hw.trans hW))
  have HM2 : Hid (∀ W, Chg NoB (P0 d0 d1 d2 A0 A1 A2 n0 n1 n2 c0 c1 c2 w) W → Calls Try.prog 29 #[nodeV d2 A2 n2 c2] W fun e w' => e = .returned (.bool (stmtsT d2 k2)) ∧ Chg NoB W w') := Go.Lib.hid fun W hW => MayStmts_c d2 k2 A2 n2 c2 W (hv.chg (hw.trans hW)) (h2.chg (hw.trans hW))
  have HK : Hid (∀ W, Chg NoB (P0 d0 d1 d2 A0 A1 A2 n0 n1 n2 c0 c1 c2 w) W → Calls Try.prog 9 #[] W fun e w' => e = .returned (.bool true) ∧ Chg NoB W w') := Go.Lib.hid fun W hW => known_c W (hv.chg (hw.trans hW))
  have H0 := Go.Lib.hid hw
  generalize bigT d0 k0 300 = x at *
  generalize bigT d1 k1 300 = y at *
  generalize bigT d2 k2 300 = z at *
  rw [t3] at HM0
  clear h0 h1 h2 hv hw
  have HC : Hid (Chg NoB (P0 d0 d1 d2 A0 A1 A2 n0 n1 n2 c0 c1 c2 w) (P0 d0 d1 d2 A0 A1 A2 n0 n1 n2 c0 c1 c2 w)) := Go.Lib.hid (Chg.refl _ _)
  go_enter Try.func7, Try.ntmps7
  obtain ⟨⟨a0, a1, a2, a3, a4⟩, ⟨b0, b1, b2, b3, b4⟩, e0, e1, e2, e3, e4⟩ := box15 HC.out
  go_wp2_with fail
  refine (HB0.out _ HC.out).mono ?_
  rintro e wN ⟨rfl, hc⟩
  clear a0 a1 a2 a3 a4 b0 b1 b2 b3 b4 e0 e1 e2 e3 e4
  have HC := Go.Lib.hid (HC.out.trans hc)
  clear hc
  obtain ⟨⟨a0, a1, a2, a3, a4⟩, ⟨b0, b1, b2, b3, b4⟩, e0, e1, e2, e3, e4⟩ := box15 HC.out
  go_wp2_with fail
  refine (HB1.out _ HC.out).mono ?_
  rintro e wN ⟨rfl, hc⟩
  clear a0 a1 a2 a3 a4 b0 b1 b2 b3 b4 e0 e1 e2 e3 e4
  have HC := Go.Lib.hid (HC.out.trans hc)
  clear hc
  obtain ⟨⟨a0, a1, a2, a3, a4⟩, ⟨b0, b1, b2, b3, b4⟩, e0, e1, e2, e3, e4⟩ := box15 HC.out
  go_wp2_with fail
  refine (HB2.out _ HC.out).mono ?_
  rintro e wN ⟨rfl, hc⟩
  clear a0 a1 a2 a3 a4 b0 b1 b2 b3 b4 e0 e1 e2 e3 e4
  have HC := Go.Lib.hid (HC.out.trans hc)
  clear hc
  obtain ⟨⟨a0, a1, a2, a3, a4⟩, ⟨b0, b1, b2, b3, b4⟩, e0, e1, e2, e3, e4⟩ := box15 HC.out
  go_wp2_with fail
  refine (HM0.out _ HC.out).mono ?_
  rintro e wN ⟨rfl, hc⟩
  clear a0 a1 a2 a3 a4 b0 b1 b2 b3 b4 e0 e1 e2 e3 e4
  have HC := Go.Lib.hid (HC.out.trans hc)
  clear hc
  obtain ⟨⟨a0, a1, a2, a3, a4⟩, ⟨b0, b1, b2, b3, b4⟩, e0, e1, e2, e3, e4⟩ := box15 HC.out
  go_wp2_with fail
  refine (HK.out _ HC.out).mono ?_
  rintro e wN ⟨rfl, hc⟩
  go_wp2_with fail
  go_ret
  exact ⟨rfl, H0.out.trans (HC.out.trans hc)⟩
set_option maxHeartbeats 1000000 in
theorem puts_4 (h0 : IsN w d0 k0 A0 n0 c0) (h1 : IsN w d1 k1 A1 n1 c1) (h2 : IsN w d2 k2 A2 n2 c2) (hv : Var0 w) (t0 : 0 ≤ bigT d0 k0 300) (t1 : 0 ≤ bigT d1 k1 300) (t2 : 0 ≤ bigT d2 k2 300) (t3 : mayT d0 k0 = true) (t4 : expT d1 k1 = false) :
    Calls Try.prog 7 #[nodeV d0 A0 n0 c0, nodeV d1 A1 n1 c1, nodeV d2 A2 n2 c2, .int .i64 a] w fun e w' => e = .returned (.bool true) ∧ Chg NoB w w' := by
  have hw := P0_chg d0 d1 d2 A0 A1 A2 n0 n1 n2 c0 c1 c2 w
  have HB0 : Hid (∀ W, Chg NoB (P0 d0 d1 d2 A0 A1 A2 n0 n1 n2 c0 c1 c2 w) W → Calls Try.prog 14 #[nodeV d0 A0 n0 c0, .int .i64 300] W fun e w' => e = .returned (.int .i64 (bigT d0 k0 300)) ∧ Chg NoB W w') := Go.Lib.hid fun W hW => Big_c d0 k0 A0 n0 c0 W 300 (h0.chg (hw.trans hW)) (by omega)
  have HB1 : Hid (∀ W, Chg NoB (P0 d0 d1 d2 A0 A1 A2 n0 n1 n2 c0 c1 c2 w) W → Calls Try.prog 14 #[nodeV d1 A1 n1 c1, .int .i64 300] W fun e w' => e = .returned (.int .i64 (bigT d1 k1 300)) ∧ Chg NoB W w') := Go.Lib.hid fun W hW => Big_c d1 k1 A1 n1 c1 W 300 (h1.chg (hw.trans hW)) (by omega)
  have HB2 : Hid (∀ W, Chg NoB (P0 d0 d1 d2 A0 A1 A2 n0 n1 n2 c0 c1 c2 w) W → Calls Try.prog 14 #[nodeV d2 A2 n2 c2, .int .i64 300] W fun e w' => e = .returned (.int .i64 (bigT d2 k2 300)) ∧ Chg NoB W w') := Go.Lib.hid fun W hW => Big_c d2 k2 A2 n2 c2 W 300 (h2.chg (hw.trans hW)) (by omega)
  have HM0 : Hid (∀ W, Chg NoB (P0 d0 d1 d2 A0 A1 A2 n0 n1 n2 c0 c1 c2 w) W → Calls Try.prog 27 #[nodeV d0 A0 n0 c0] W fun e w' => e = .returned (.bool (mayT d0 k0)) ∧ Chg NoB W w') := Go.Lib.hid fun W hW => May_c d0 k0 A0 n0 c0 W (hv.chg (hw.trans hW)) (h0.chg (hw.trans hW))
  have HM1 : Hid (∀ W, Chg NoB (P0 d0 d1 d2 A0 A1 A2 n0 n1 n2 c0 c1 c2 w) W → Calls Try.prog 28 #[nodeV d1 A1 n1 c1] W fun e w' => e = .returned (.bool (expT d1 k1)) ∧ Chg NoB W w') := Go.Lib.hid fun W hW => MayExpr_c d1 k1 A1 n1 c1 W (hv.chg (hw.trans hW)) (h1.chg (hw.trans hW))
  have HM2 : Hid (∀ W, Chg NoB (P0 d0 d1 d2 A0 A1 A2 n0 n1 n2 c0 c1 c2 w) W → Calls Try.prog 29 #[nodeV d2 A2 n2 c2] W fun e w' => e = .returned (.bool (stmtsT d2 k2)) ∧ Chg NoB W w') := Go.Lib.hid fun W hW => MayStmts_c d2 k2 A2 n2 c2 W (hv.chg (hw.trans hW)) (h2.chg (hw.trans hW))
  have HK : Hid (∀ W, Chg NoB (P0 d0 d1 d2 A0 A1 A2 n0 n1 n2 c0 c1 c2 w) W → Calls Try.prog 9 #[] W fun e w' => e = .returned (.bool true) ∧ Chg NoB W w') := Go.Lib.hid fun W hW => known_c W (hv.chg (hw.trans hW))
  have H0 := Go.Lib.hid hw
  generalize bigT d0 k0 300 = x at *
  generalize bigT d1 k1 300 = y at *
  generalize bigT d2 k2 300 = z at *
  rw [t3] at HM0
  rw [t4] at HM1
  clear h0 h1 h2 hv hw
  have HC : Hid (Chg NoB (P0 d0 d1 d2 A0 A1 A2 n0 n1 n2 c0 c1 c2 w) (P0 d0 d1 d2 A0 A1 A2 n0 n1 n2 c0 c1 c2 w)) := Go.Lib.hid (Chg.refl _ _)
  go_enter Try.func7, Try.ntmps7
  obtain ⟨⟨a0, a1, a2, a3, a4⟩, ⟨b0, b1, b2, b3, b4⟩, e0, e1, e2, e3, e4⟩ := box15 HC.out
  go_wp2_with fail
  refine (HB0.out _ HC.out).mono ?_
  rintro e wN ⟨rfl, hc⟩
  clear a0 a1 a2 a3 a4 b0 b1 b2 b3 b4 e0 e1 e2 e3 e4
  have HC := Go.Lib.hid (HC.out.trans hc)
  clear hc
  obtain ⟨⟨a0, a1, a2, a3, a4⟩, ⟨b0, b1, b2, b3, b4⟩, e0, e1, e2, e3, e4⟩ := box15 HC.out
  go_wp2_with fail
  refine (HB1.out _ HC.out).mono ?_
  rintro e wN ⟨rfl, hc⟩
  clear a0 a1 a2 a3 a4 b0 b1 b2 b3 b4 e0 e1 e2 e3 e4
  have HC := Go.Lib.hid (HC.out.trans hc)
  clear hc
  obtain ⟨⟨a0, a1, a2, a3, a4⟩, ⟨b0, b1, b2, b3, b4⟩, e0, e1, e2, e3, e4⟩ := box15 HC.out
  go_wp2_with fail
  refine (HB2.out _ HC.out).mono ?_
  rintro e wN ⟨rfl, hc⟩
  clear a0 a1 a2 a3 a4 b0 b1 b2 b3 b4 e0 e1 e2 e3 e4
  have HC := Go.Lib.hid (HC.out.trans hc)
  clear hc
  obtain ⟨⟨a0, a1, a2, a3, a4⟩, ⟨b0, b1, b2, b3, b4⟩, e0, e1, e2, e3, e4⟩ := box15 HC.out
  go_wp2_with fail
  refine (HM0.out _ HC.out).mono ?_
  rintro e wN ⟨rfl, hc⟩
  clear a0 a1 a2 a3 a4 b0 b1 b2 b3 b4 e0 e1 e2 e3 e4
  have HC := Go.Lib.hid (HC.out.trans hc)
  clear hc
  obtain ⟨⟨a0, a1, a2, a3, a4⟩, ⟨b0, b1, b2, b3, b4⟩, e0, e1, e2, e3, e4⟩ := box15 HC.out
  go_wp2_with fail
  refine (HM1.out _ HC.out).mono ?_
  rintro e wN ⟨rfl, hc⟩
  clear a0 a1 a2 a3 a4 b0 b1 b2 b3 b4 e0 e1 e2 e3 e4
  have HC := Go.Lib.hid (HC.out.trans hc)
  clear hc
  obtain ⟨⟨a0, a1, a2, a3, a4⟩, ⟨b0, b1, b2, b3, b4⟩, e0, e1, e2, e3, e4⟩ := box15 HC.out
  go_wp2_with fail
  refine (HK.out _ HC.out).mono ?_
  rintro e wN ⟨rfl, hc⟩
  go_wp2_with fail
  go_ret
  exact ⟨rfl, H0.out.trans (HC.out.trans hc)⟩
set_option maxHeartbeats 1000000 in
theorem puts_5 (h0 : IsN w d0 k0 A0 n0 c0) (h1 : IsN w d1 k1 A1 n1 c1) (h2 : IsN w d2 k2 A2 n2 c2) (hv : Var0 w) (t0 : 0 ≤ bigT d0 k0 300) (t1 : 0 ≤ bigT d1 k1 300) (t2 : 0 ≤ bigT d2 k2 300) (t3 : mayT d0 k0 = true) (t4 : expT d1 k1 = true) (t5 : stmtsT d2 k2 = false) :
    Calls Try.prog 7 #[nodeV d0 A0 n0 c0, nodeV d1 A1 n1 c1, nodeV d2 A2 n2 c2, .int .i64 a] w fun e w' => e = .returned (.bool true) ∧ Chg NoB w w' := by
  have hw := P0_chg d0 d1 d2 A0 A1 A2 n0 n1 n2 c0 c1 c2 w
  have HB0 : Hid (∀ W, Chg NoB (P0 d0 d1 d2 A0 A1 A2 n0 n1 n2 c0 c1 c2 w) W → Calls Try.prog 14 #[nodeV d0 A0 n0 c0, .int .i64 300] W fun e w' => e = .returned (.int .i64 (bigT d0 k0 300)) ∧ Chg NoB W w') := Go.Lib.hid fun W hW => Big_c d0 k0 A0 n0 c0 W 300 (h0.chg (hw.trans hW)) (by omega)
  have HB1 : Hid (∀ W, Chg NoB (P0 d0 d1 d2 A0 A1 A2 n0 n1 n2 c0 c1 c2 w) W → Calls Try.prog 14 #[nodeV d1 A1 n1 c1, .int .i64 300] W fun e w' => e = .returned (.int .i64 (bigT d1 k1 300)) ∧ Chg NoB W w') := Go.Lib.hid fun W hW => Big_c d1 k1 A1 n1 c1 W 300 (h1.chg (hw.trans hW)) (by omega)
  have HB2 : Hid (∀ W, Chg NoB (P0 d0 d1 d2 A0 A1 A2 n0 n1 n2 c0 c1 c2 w) W → Calls Try.prog 14 #[nodeV d2 A2 n2 c2, .int .i64 300] W fun e w' => e = .returned (.int .i64 (bigT d2 k2 300)) ∧ Chg NoB W w') := Go.Lib.hid fun W hW => Big_c d2 k2 A2 n2 c2 W 300 (h2.chg (hw.trans hW)) (by omega)
  have HM0 : Hid (∀ W, Chg NoB (P0 d0 d1 d2 A0 A1 A2 n0 n1 n2 c0 c1 c2 w) W → Calls Try.prog 27 #[nodeV d0 A0 n0 c0] W fun e w' => e = .returned (.bool (mayT d0 k0)) ∧ Chg NoB W w') := Go.Lib.hid fun W hW => May_c d0 k0 A0 n0 c0 W (hv.chg (hw.trans hW)) (h0.chg (hw.trans hW))
  have HM1 : Hid (∀ W, Chg NoB (P0 d0 d1 d2 A0 A1 A2 n0 n1 n2 c0 c1 c2 w) W → Calls Try.prog 28 #[nodeV d1 A1 n1 c1] W fun e w' => e = .returned (.bool (expT d1 k1)) ∧ Chg NoB W w') := Go.Lib.hid fun W hW => MayExpr_c d1 k1 A1 n1 c1 W (hv.chg (hw.trans hW)) (h1.chg (hw.trans hW))
  have HM2 : Hid (∀ W, Chg NoB (P0 d0 d1 d2 A0 A1 A2 n0 n1 n2 c0 c1 c2 w) W → Calls Try.prog 29 #[nodeV d2 A2 n2 c2] W fun e w' => e = .returned (.bool (stmtsT d2 k2)) ∧ Chg NoB W w') := Go.Lib.hid fun W hW => MayStmts_c d2 k2 A2 n2 c2 W (hv.chg (hw.trans hW)) (h2.chg (hw.trans hW))
  have HK : Hid (∀ W, Chg NoB (P0 d0 d1 d2 A0 A1 A2 n0 n1 n2 c0 c1 c2 w) W → Calls Try.prog 9 #[] W fun e w' => e = .returned (.bool true) ∧ Chg NoB W w') := Go.Lib.hid fun W hW => known_c W (hv.chg (hw.trans hW))
  have H0 := Go.Lib.hid hw
  generalize bigT d0 k0 300 = x at *
  generalize bigT d1 k1 300 = y at *
  generalize bigT d2 k2 300 = z at *
  rw [t3] at HM0
  rw [t4] at HM1
  rw [t5] at HM2
  clear h0 h1 h2 hv hw
  have HC : Hid (Chg NoB (P0 d0 d1 d2 A0 A1 A2 n0 n1 n2 c0 c1 c2 w) (P0 d0 d1 d2 A0 A1 A2 n0 n1 n2 c0 c1 c2 w)) := Go.Lib.hid (Chg.refl _ _)
  go_enter Try.func7, Try.ntmps7
  obtain ⟨⟨a0, a1, a2, a3, a4⟩, ⟨b0, b1, b2, b3, b4⟩, e0, e1, e2, e3, e4⟩ := box15 HC.out
  go_wp2_with fail
  refine (HB0.out _ HC.out).mono ?_
  rintro e wN ⟨rfl, hc⟩
  clear a0 a1 a2 a3 a4 b0 b1 b2 b3 b4 e0 e1 e2 e3 e4
  have HC := Go.Lib.hid (HC.out.trans hc)
  clear hc
  obtain ⟨⟨a0, a1, a2, a3, a4⟩, ⟨b0, b1, b2, b3, b4⟩, e0, e1, e2, e3, e4⟩ := box15 HC.out
  go_wp2_with fail
  refine (HB1.out _ HC.out).mono ?_
  rintro e wN ⟨rfl, hc⟩
  clear a0 a1 a2 a3 a4 b0 b1 b2 b3 b4 e0 e1 e2 e3 e4
  have HC := Go.Lib.hid (HC.out.trans hc)
  clear hc
  obtain ⟨⟨a0, a1, a2, a3, a4⟩, ⟨b0, b1, b2, b3, b4⟩, e0, e1, e2, e3, e4⟩ := box15 HC.out
  go_wp2_with fail
  refine (HB2.out _ HC.out).mono ?_
  rintro e wN ⟨rfl, hc⟩
  clear a0 a1 a2 a3 a4 b0 b1 b2 b3 b4 e0 e1 e2 e3 e4
  have HC := Go.Lib.hid (HC.out.trans hc)
  clear hc
  obtain ⟨⟨a0, a1, a2, a3, a4⟩, ⟨b0, b1, b2, b3, b4⟩, e0, e1, e2, e3, e4⟩ := box15 HC.out
  go_wp2_with fail
  refine (HM0.out _ HC.out).mono ?_
  rintro e wN ⟨rfl, hc⟩
  clear a0 a1 a2 a3 a4 b0 b1 b2 b3 b4 e0 e1 e2 e3 e4
  have HC := Go.Lib.hid (HC.out.trans hc)
  clear hc
  obtain ⟨⟨a0, a1, a2, a3, a4⟩, ⟨b0, b1, b2, b3, b4⟩, e0, e1, e2, e3, e4⟩ := box15 HC.out
  go_wp2_with fail
  refine (HM1.out _ HC.out).mono ?_
  rintro e wN ⟨rfl, hc⟩
  clear a0 a1 a2 a3 a4 b0 b1 b2 b3 b4 e0 e1 e2 e3 e4
  have HC := Go.Lib.hid (HC.out.trans hc)
  clear hc
  obtain ⟨⟨a0, a1, a2, a3, a4⟩, ⟨b0, b1, b2, b3, b4⟩, e0, e1, e2, e3, e4⟩ := box15 HC.out
  go_wp2_with fail
  refine (HM2.out _ HC.out).mono ?_
  rintro e wN ⟨rfl, hc⟩
  clear a0 a1 a2 a3 a4 b0 b1 b2 b3 b4 e0 e1 e2 e3 e4
  have HC := Go.Lib.hid (HC.out.trans hc)
  clear hc
  obtain ⟨⟨a0, a1, a2, a3, a4⟩, ⟨b0, b1, b2, b3, b4⟩, e0, e1, e2, e3, e4⟩ := box15 HC.out
  go_wp2_with fail
  refine (HK.out _ HC.out).mono ?_
  rintro e wN ⟨rfl, hc⟩
  go_wp2_with fail
  go_ret
  exact ⟨rfl, H0.out.trans (HC.out.trans hc)⟩
set_option maxHeartbeats 4000000 in
theorem puts_main (h0 : IsN w d0 k0 A0 n0 c0) (h1 : IsN w d1 k1 A1 n1 c1) (h2 : IsN w d2 k2 A2 n2 c2) (hv : Var0 w) (ha : -9223372036854775808 ≤ a ∧ a ≤ 9223372036854775807) (t0 : 0 ≤ bigT d0 k0 300) (t1 : 0 ≤ bigT d1 k1 300) (t2 : 0 ≤ bigT d2 k2 300) (t3 : mayT d0 k0 = true) (t4 : expT d1 k1 = true) (t5 : stmtsT d2 k2 = true) :
    Calls Try.prog 7 #[nodeV d0 A0 n0 c0, nodeV d1 A1 n1 c1, nodeV d2 A2 n2 c2, .int .i64 a] w fun e w' => e = .returned (.bool true) ∧ Chg NoB w w' := by
  have hsz := bigT_size d0 k0 300 t0
  have hw := P0_chg d0 d1 d2 A0 A1 A2 n0 n1 n2 c0 c1 c2 w
  have HB0 : Hid (∀ W, Chg NoB (P0 d0 d1 d2 A0 A1 A2 n0 n1 n2 c0 c1 c2 w) W → Calls Try.prog 14 #[nodeV d0 A0 n0 c0, .int .i64 300] W fun e w' => e = .returned (.int .i64 (bigT d0 k0 300)) ∧ Chg NoB W w') := Go.Lib.hid fun W hW => Big_c d0 k0 A0 n0 c0 W 300 (h0.chg (hw.trans hW)) (by omega)
  have HB1 : Hid (∀ W, Chg NoB (P0 d0 d1 d2 A0 A1 A2 n0 n1 n2 c0 c1 c2 w) W → Calls Try.prog 14 #[nodeV d1 A1 n1 c1, .int .i64 300] W fun e w' => e = .returned (.int .i64 (bigT d1 k1 300)) ∧ Chg NoB W w') := Go.Lib.hid fun W hW => Big_c d1 k1 A1 n1 c1 W 300 (h1.chg (hw.trans hW)) (by omega)
  have HB2 : Hid (∀ W, Chg NoB (P0 d0 d1 d2 A0 A1 A2 n0 n1 n2 c0 c1 c2 w) W → Calls Try.prog 14 #[nodeV d2 A2 n2 c2, .int .i64 300] W fun e w' => e = .returned (.int .i64 (bigT d2 k2 300)) ∧ Chg NoB W w') := Go.Lib.hid fun W hW => Big_c d2 k2 A2 n2 c2 W 300 (h2.chg (hw.trans hW)) (by omega)
  have HM0 : Hid (∀ W, Chg NoB (P0 d0 d1 d2 A0 A1 A2 n0 n1 n2 c0 c1 c2 w) W → Calls Try.prog 27 #[nodeV d0 A0 n0 c0] W fun e w' => e = .returned (.bool (mayT d0 k0)) ∧ Chg NoB W w') := Go.Lib.hid fun W hW => May_c d0 k0 A0 n0 c0 W (hv.chg (hw.trans hW)) (h0.chg (hw.trans hW))
  have HM1 : Hid (∀ W, Chg NoB (P0 d0 d1 d2 A0 A1 A2 n0 n1 n2 c0 c1 c2 w) W → Calls Try.prog 28 #[nodeV d1 A1 n1 c1] W fun e w' => e = .returned (.bool (expT d1 k1)) ∧ Chg NoB W w') := Go.Lib.hid fun W hW => MayExpr_c d1 k1 A1 n1 c1 W (hv.chg (hw.trans hW)) (h1.chg (hw.trans hW))
  have HM2 : Hid (∀ W, Chg NoB (P0 d0 d1 d2 A0 A1 A2 n0 n1 n2 c0 c1 c2 w) W → Calls Try.prog 29 #[nodeV d2 A2 n2 c2] W fun e w' => e = .returned (.bool (stmtsT d2 k2)) ∧ Chg NoB W w') := Go.Lib.hid fun W hW => MayStmts_c d2 k2 A2 n2 c2 W (hv.chg (hw.trans hW)) (h2.chg (hw.trans hW))
  have HK : Hid (∀ W, Chg NoB (P0 d0 d1 d2 A0 A1 A2 n0 n1 n2 c0 c1 c2 w) W → Calls Try.prog 9 #[] W fun e w' => e = .returned (.bool true) ∧ Chg NoB W w') := Go.Lib.hid fun W hW => known_c W (hv.chg (hw.trans hW))
  have H0 := Go.Lib.hid hw
  have Hswap := Go.Lib.hid (fun k => swap_may (d := d0) (ks := k0) (yd := d2) (yk := k2) t4 t5 t3 k)
  have Hv : Hid (∀ W, Chg NoB (P0 d0 d1 d2 A0 A1 A2 n0 n1 n2 c0 c1 c2 w) W → Var0 W) := Go.Lib.hid fun W hW => hv.chg (hw.trans hW)
  have HN0 : Hid (∀ W, Chg NoB (P0 d0 d1 d2 A0 A1 A2 n0 n1 n2 c0 c1 c2 w) W → IsN W d0 k0 A0 n0 c0) := Go.Lib.hid fun W hW => h0.chg (hw.trans hW)
  have HN1 : Hid (∀ W, Chg NoB (P0 d0 d1 d2 A0 A1 A2 n0 n1 n2 c0 c1 c2 w) W → IsN W d1 k1 A1 n1 c1) := Go.Lib.hid fun W hW => h1.chg (hw.trans hW)
  have HN2 : Hid (∀ W, Chg NoB (P0 d0 d1 d2 A0 A1 A2 n0 n1 n2 c0 c1 c2 w) W → IsN W d2 k2 A2 n2 c2) := Go.Lib.hid fun W hW => h2.chg (hw.trans hW)
  generalize bigT d0 k0 300 = x at *
  generalize bigT d1 k1 300 = y at *
  generalize bigT d2 k2 300 = z at *
  rw [t3] at HM0
  rw [t4] at HM1
  rw [t5] at HM2
  have Ha := Go.Lib.hid ha
  clear h0 h1 h2 hv hw ha t3 t4 t5
  have HC : Hid (Chg NoB (P0 d0 d1 d2 A0 A1 A2 n0 n1 n2 c0 c1 c2 w) (P0 d0 d1 d2 A0 A1 A2 n0 n1 n2 c0 c1 c2 w)) := Go.Lib.hid (Chg.refl _ _)
  go_enter Try.func7, Try.ntmps7
  obtain ⟨⟨a0, a1, a2, a3, a4⟩, ⟨b0, b1, b2, b3, b4⟩, e0, e1, e2, e3, e4⟩ := box15 HC.out
  go_wp2_with fail
  refine (HB0.out _ HC.out).mono ?_
  rintro e wN ⟨rfl, hc⟩
  clear a0 a1 a2 a3 a4 b0 b1 b2 b3 b4 e0 e1 e2 e3 e4
  have HC := Go.Lib.hid (HC.out.trans hc)
  clear hc
  obtain ⟨⟨a0, a1, a2, a3, a4⟩, ⟨b0, b1, b2, b3, b4⟩, e0, e1, e2, e3, e4⟩ := box15 HC.out
  go_wp2_with fail
  refine (HB1.out _ HC.out).mono ?_
  rintro e wN ⟨rfl, hc⟩
  clear a0 a1 a2 a3 a4 b0 b1 b2 b3 b4 e0 e1 e2 e3 e4
  have HC := Go.Lib.hid (HC.out.trans hc)
  clear hc
  obtain ⟨⟨a0, a1, a2, a3, a4⟩, ⟨b0, b1, b2, b3, b4⟩, e0, e1, e2, e3, e4⟩ := box15 HC.out
  go_wp2_with fail
  refine (HB2.out _ HC.out).mono ?_
  rintro e wN ⟨rfl, hc⟩
  clear a0 a1 a2 a3 a4 b0 b1 b2 b3 b4 e0 e1 e2 e3 e4
  have HC := Go.Lib.hid (HC.out.trans hc)
  clear hc
  obtain ⟨⟨a0, a1, a2, a3, a4⟩, ⟨b0, b1, b2, b3, b4⟩, e0, e1, e2, e3, e4⟩ := box15 HC.out
  go_wp2_with fail
  refine (HM0.out _ HC.out).mono ?_
  rintro e wN ⟨rfl, hc⟩
  clear a0 a1 a2 a3 a4 b0 b1 b2 b3 b4 e0 e1 e2 e3 e4
  have HC := Go.Lib.hid (HC.out.trans hc)
  clear hc
  obtain ⟨⟨a0, a1, a2, a3, a4⟩, ⟨b0, b1, b2, b3, b4⟩, e0, e1, e2, e3, e4⟩ := box15 HC.out
  go_wp2_with fail
  refine (HM1.out _ HC.out).mono ?_
  rintro e wN ⟨rfl, hc⟩
  clear a0 a1 a2 a3 a4 b0 b1 b2 b3 b4 e0 e1 e2 e3 e4
  have HC := Go.Lib.hid (HC.out.trans hc)
  clear hc
  obtain ⟨⟨a0, a1, a2, a3, a4⟩, ⟨b0, b1, b2, b3, b4⟩, e0, e1, e2, e3, e4⟩ := box15 HC.out
  go_wp2_with fail
  refine (HM2.out _ HC.out).mono ?_
  rintro e wN ⟨rfl, hc⟩
  clear a0 a1 a2 a3 a4 b0 b1 b2 b3 b4 e0 e1 e2 e3 e4
  have HC := Go.Lib.hid (HC.out.trans hc)
  clear hc
  obtain ⟨⟨a0, a1, a2, a3, a4⟩, ⟨b0, b1, b2, b3, b4⟩, e0, e1, e2, e3, e4⟩ := box15 HC.out
  set_option maxRecDepth 100000 in
  go_wp2_with fail
  clear t0 t1 t2 b0 b1 b2 b3 b4 e0 e1 e2 e3 e4
  refine (Copy_c d0 k0 A0 n0 c0 _ (HN0.out _ HC.out) (by omega)).mono ?_
  rintro e w6 ⟨A, c, g, rfl, hcp⟩
  clear a0 a1 a2 a3 a4
  have HP := Go.Lib.hid hcp
  have HC6 := Go.Lib.hid (HC.out.trans hcp.chg)
  clear hcp
  have hb := fun o => (box15 (HC6.out.alloc o)).2
  have f0 := fun o => (hb o).1.1
  have f1 := fun o => (hb o).1.2.1
  have f2 := fun o => (hb o).1.2.2.1
  have f3 := fun o => (hb o).1.2.2.2.1
  have f4 := fun o => (hb o).1.2.2.2.2
  have hb2 := fun o1 o2 => (box15 ((HC6.out.alloc o1).alloc o2)).2.2
  have j0 := fun o1 o2 => (hb2 o1 o2).1
  have j1 := fun o1 o2 => (hb2 o1 o2).2.1
  have j2 := fun o1 o2 => (hb2 o1 o2).2.2.1
  have j3 := fun o1 o2 => (hb2 o1 o2).2.2.2.1
  have j4 := fun o1 o2 => (hb2 o1 o2).2.2.2.2
  clear hb hb2
  go_wp2_with fail
  clear f0 f1 f2 f3 f4 j0 j1 j2 j3 j4
  have hB8 : Blk ((w6.alloc (.cells #[.int .i64 d0.kind, .string d0.nm, .int .u32 d0.val, .bool d0.mark, .slice A k0.len c] NT)).alloc (.cells #[.int .i64 d1.kind, .string d1.nm, .int .u32 d1.val, .bool d1.mark, .slice A1 n1 c1] NT)) w6.heap.size NT #[.int .i64 d0.kind, .string d0.nm, .int .u32 d0.val, .bool d0.mark, .slice A k0.len c] := (Blk.new w6 NT #[.int .i64 d0.kind, .string d0.nm, .int .u32 d0.val, .bool d0.mark, .slice A k0.len c]).alloc _
  have hR8 : Blk ((w6.alloc (.cells #[.int .i64 d0.kind, .string d0.nm, .int .u32 d0.val, .bool d0.mark, .slice A k0.len c] NT)).alloc (.cells #[.int .i64 d1.kind, .string d1.nm, .int .u32 d1.val, .bool d1.mark, .slice A1 n1 c1] NT)) (w6.heap.size + 1) NT #[.int .i64 d1.kind, .string d1.nm, .int .u32 d1.val, .bool d1.mark, .slice A1 n1 c1] := Blk.at_ _ _ _ _ (by simp)
  have hC8 := (HC6.out.alloc (.cells #[.int .i64 d0.kind, .string d0.nm, .int .u32 d0.val, .bool d0.mark, .slice A k0.len c] NT)).alloc (.cells #[.int .i64 d1.kind, .string d1.nm, .int .u32 d1.val, .bool d1.mark, .slice A1 n1 c1] NT)
  have hk8 : ∀ q ∈ rowOf A k0.len ++ g.rows, ((w6.alloc (.cells #[.int .i64 d0.kind, .string d0.nm, .int .u32 d0.val, .bool d0.mark, .slice A k0.len c] NT)).alloc (.cells #[.int .i64 d1.kind, .string d1.nm, .int .u32 d1.val, .bool d1.mark, .slice A1 n1 c1] NT)).heap[q]? = w6.heap[q]? := fun q hq => by
    have h3 := (HP.out.new q hq).2
    rw [Below.heap_alloc _ _ q (by simp; omega)]
    exact Below.heap_alloc w6 _ q h3
  have hnew : ∀ q ∈ rowOf A k0.len ++ g.rows, (P0 d0 d1 d2 A0 A1 A2 n0 n1 n2 c0 c1 c2 w).heap.size ≤ q ∧ q < w6.heap.size := fun q hq => ⟨Nat.le_trans HC.out.size (HP.out.new q hq).1, (HP.out.new q hq).2⟩
  have hlen : k0.len = g.len := by rw [← HP.out.er, G.len_erase]
  have hold : ∀ W, Chg (fun q => q ∈ rowOf A k0.len ++ g.rows) ((w6.alloc (.cells #[.int .i64 d0.kind, .string d0.nm, .int .u32 d0.val, .bool d0.mark, .slice A k0.len c] NT)).alloc (.cells #[.int .i64 d1.kind, .string d1.nm, .int .u32 d1.val, .bool d1.mark, .slice A1 n1 c1] NT)) W → Chg NoB (P0 d0 d1 d2 A0 A1 A2 n0 n1 n2 c0 c1 c2 w) W := fun W hW => hC8.step hW fun i hi hg => by have := (hnew i hg).1; omega
  have hsw := (swap_all (xd := parenD) (xk := .cons d1 k1 .nil) (xA := some ⟨w6.heap.size + 1, 0, none⟩) (xn := 1) (xc := 1) (yd := d2) (yk := k2) (yA := A2) (yn := n2) (yc := c2) g).1 w6.heap.size 0 k0.len c A a
    ((w6.alloc (.cells #[.int .i64 d0.kind, .string d0.nm, .int .u32 d0.val, .bool d0.mark, .slice A k0.len c] NT)).alloc (.cells #[.int .i64 d1.kind, .string d1.nm, .int .u32 d1.val, .bool d1.mark, .slice A1 n1 c1] NT)) hlen HP.out.le HP.out.most (hB8.cell 4) (fun hm => by have := (hnew _ hm).2; omega)
    (HP.out.sub.keep fun q hq => hk8 q (List.mem_append.2 (.inr hq))) (fun h0 => (HP.out.row h0).keep h0 fun q hq => hk8 q (List.mem_append.2 (.inl hq))) HP.out.nd Ha.out
    (fun W hW => ⟨⟨ownOk_lit 32 _ 0 false (by omega) (by decide) (by omega), Nat.le_refl _, by unfold maxLen; omega, isL1 (T := NT) (hR8.chg hW fun hm => by have := (hnew _ hm).2; omega) (HN1.out W (hold W hW))⟩, HN2.out W (hold W hW)⟩)
  refine hsw.mono ?_
  rintro e w9 ⟨rfl, hIs, hch, _⟩
  have hB9 := hB8.chg hch fun hm => by have := (hnew _ hm).2; omega
  have HC9 := Go.Lib.hid (hold _ hch)
  have HI := Go.Lib.hid (May_c d0 (F.swap parenD (.cons d1 k1 .nil) d2 k2 g.erase a).1 A k0.len c w9 (Hv.out _ HC9.out) ⟨(HN0.out _ HC9.out).ok, HP.out.le, HP.out.most, hIs⟩)
  rw [HP.out.er, Hswap.out a] at HI
  obtain ⟨a0, a1, a2, a3, a4⟩ := blk5 hB9 (Chg.refl _ _)
  clear hB8 hR8 hC8 hk8 hnew hold hlen hsw hIs hch hB9
  go_wp2_with fail
  refine HI.out.mono ?_
  rintro e w10 ⟨rfl, hc⟩
  have HC10 := Go.Lib.hid (HC9.out.trans hc)
  clear hc a0 a1 a2 a3 a4
  go_wp2_with fail
  refine (HK.out _ HC10.out).mono ?_
  rintro e w11 ⟨rfl, hc⟩
  go_wp2_with fail
  go_ret
  exact ⟨rfl, H0.out.trans (HC10.out.trans hc)⟩
end
theorem treePuts_walk (d0 : Own) (k0 : F) (A0 : Option Addr) (n0 c0 : Nat) {w : World} (h0 : IsN w d0 k0 A0 n0 c0) (d1 : Own) (k1 : F) (A1 : Option Addr) (n1 c1 : Nat) (h1 : IsN w d1 k1 A1 n1 c1) (d2 : Own) (k2 : F) (A2 : Option Addr) (n2 c2 : Nat) (h2 : IsN w d2 k2 A2 n2 c2) (a : Int) (wa : (Lit.int .i64 a).wf = true) (_ : World) (hv : Var0 w) :
    Calls Try.prog 7 #[nodeV d0 A0 n0 c0, nodeV d1 A1 n1 c1, nodeV d2 A2 n2 c2, .int .i64 a] w fun e w' => e = .returned (.bool true) ∧ Chg NoB w w' := by
  have ha : -9223372036854775808 ≤ a ∧ a ≤ 9223372036854775807 := wf_i64 wa
  by_cases t0 : bigT d0 k0 300 < 0
  · exact puts_0 d0 d1 d2 k0 k1 k2 A0 A1 A2 n0 n1 n2 c0 c1 c2 a w h0 h1 h2 hv t0
  have t0 : 0 ≤ bigT d0 k0 300 := by omega
  by_cases t1 : bigT d1 k1 300 < 0
  · exact puts_1 d0 d1 d2 k0 k1 k2 A0 A1 A2 n0 n1 n2 c0 c1 c2 a w h0 h1 h2 hv t0 t1
  have t1 : 0 ≤ bigT d1 k1 300 := by omega
  by_cases t2 : bigT d2 k2 300 < 0
  · exact puts_2 d0 d1 d2 k0 k1 k2 A0 A1 A2 n0 n1 n2 c0 c1 c2 a w h0 h1 h2 hv t0 t1 t2
  have t2 : 0 ≤ bigT d2 k2 300 := by omega
  cases t3 : mayT d0 k0 with
  | false => exact puts_3 d0 d1 d2 k0 k1 k2 A0 A1 A2 n0 n1 n2 c0 c1 c2 a w h0 h1 h2 hv t0 t1 t2 t3
  | true =>
  cases t4 : expT d1 k1 with
  | false => exact puts_4 d0 d1 d2 k0 k1 k2 A0 A1 A2 n0 n1 n2 c0 c1 c2 a w h0 h1 h2 hv t0 t1 t2 t3 t4
  | true =>
  cases t5 : stmtsT d2 k2 with
  | false => exact puts_5 d0 d1 d2 k0 k1 k2 A0 A1 A2 n0 n1 n2 c0 c1 c2 a w h0 h1 h2 hv t0 t1 t2 t3 t4 t5
  | true => exact puts_main d0 d1 d2 k0 k1 k2 A0 A1 A2 n0 n1 n2 c0 c1 c2 a w h0 h1 h2 hv ha t0 t1 t2 t3 t4 t5
end Go.Proofs.Ytnihjkcniddepaa

