/- What is proved: the contracts of tree's mayStmt, MayStmts, unmarked at a node, out of the contracts at the nodes below. Conditions: the library's variable holds a number. -/
import Derived.Test.YtnihjkcniddepaaBranch
namespace Go.Proofs.Ytnihjkcniddepaa
open Go.RowKit

set_option maxHeartbeats 400000 in
theorem stm20_false (d : Own) (ks : F) (kA : Option Addr) (kn kc : Nat) (w : World) (hv : Var0 w) (hN : IsN w d ks kA kn kc) (hkind : d.kind = 20) (his : isT d (F.len ks) d.kind pK (2) = false) :
    Calls Try.prog 47 #[nodeV d kA kn kc] w (fun e w' => e = .returned (.bool (stmtT d ks)) ∧ Chg NoB w w') := by
  have hlen := hN.kids.len
  have hw0 : Chg NoB w (w.alloc (.cells #[.int .i64 d.kind, .string d.nm, .int .u32 d.val, .bool d.mark, .slice kA kn kc] 28)) := (Chg.refl _ _).alloc _
  have h1 := is_c d hN.ok kA kn kc (Nat.le_trans hN.le hN.most) d.kind pK (by decide) (2) (w.alloc (.cells #[.int .i64 d.kind, .string d.nm, .int .u32 d.val, .bool d.mark, .slice kA kn kc] 28)) (hv.chg hw0)
  rw [hlen, his, ← hlen] at h1
  unfold nodeV pK at h1
  have H1 := Go.Lib.hid h1
  have t20 : (d.kind == 20) = true := by simp [hkind]
  have Heq : Hid (stmtT d ks = false) := Go.Lib.hid (by show stmtM d _ _ _ = _; unfold stmtM; simp [t20, his])
  have H0 := Go.Lib.hid hw0
  clear h1 his hkind hlen hw0
  unfold nodeV
  go_enter Try.func47, Try.ntmps47
  go_wp2_with fail
  refine H1.out.mono ?_
  rintro e w1 ⟨rfl, hc⟩
  obtain ⟨hb0, hb1, hb2, hb3, hb4⟩ := box5 hc
  have HC := Go.Lib.hid hc
  clear hc
  go_wp2_with fail
  go_ret
  exact ⟨congrArg (fun b => Ending.returned (.bool b)) Heq.out.symm, H0.out.trans HC.out⟩
set_option maxHeartbeats 400000 in
theorem stm20_true (d : Own) (d0 : Own) (k0 : F) (d1 : Own) (k1 r : F) (kA : Option Addr) (kn kc : Nat) (w : World) (hv : Var0 w) (hN : IsN w d (.cons d0 k0 (.cons d1 k1 r)) kA kn kc) (hkind : d.kind = 20) (hd0 : Hid (MayC 54 desT d0 k0)) (he1 : Hid (MayC 28 expT d1 k1)) (his : isT d (F.len (.cons d0 k0 (.cons d1 k1 r))) d.kind pK (2) = true) :
    Calls Try.prog 47 #[nodeV d kA kn kc] w (fun e w' => e = .returned (.bool (stmtT d (.cons d0 k0 (.cons d1 k1 r)))) ∧ Chg NoB w w') := by
  have hlen := hN.kids.len
  have hw0 : Chg NoB w (w.alloc (.cells #[.int .i64 d.kind, .string d.nm, .int .u32 d.val, .bool d.mark, .slice kA kn kc] 28)) := (Chg.refl _ _).alloc _
  have h1 := is_c d hN.ok kA kn kc (Nat.le_trans hN.le hN.most) d.kind pK (by decide) (2) (w.alloc (.cells #[.int .i64 d.kind, .string d.nm, .int .u32 d.val, .bool d.mark, .slice kA kn kc] 28)) (hv.chg hw0)
  rw [hlen, his, ← hlen] at h1
  unfold nodeV pK at h1
  have H1 := Go.Lib.hid h1
  have t20 : (d.kind == 20) = true := by simp [hkind]
  have Heq := Go.Lib.hid (show stmtT d (.cons d0 k0 (.cons d1 k1 r)) = (desT d0 k0 && expT d1 k1) by show stmtM d _ _ _ = _; unfold stmtM; simp only [t20, his, if_true, Bool.true_and]; rfl)
  have Hv : Hid (∀ W, Chg NoB (w.alloc (.cells #[.int .i64 d.kind, .string d.nm, .int .u32 d.val, .bool d.mark, .slice kA kn kc] 28)) W → Var0 W) := Go.Lib.hid fun W hW => hv.chg (hw0.trans hW)
  have hkids := hN.kids
  obtain ⟨b0, o0, kA0, kn0, kc0, m0, hA0, rfl, ok0, le0, most0, e0, e1, e2, e3, e4, hk0, hr0⟩ := hkids
  subst hA0
  obtain ⟨b1, o1, kA1, kn1, kc1, m1, hA1, rfl, ok1, le1, most1, g0, g1, g2, g3, g4, hk1, hr1⟩ := hr0
  injection hA1 with hA1
  injection hA1 with hA1 hA2
  subst hA1
  subst hA2
  have HK0 : Hid (∀ W, Chg NoB (w.alloc (.cells #[.int .i64 d.kind, .string d.nm, .int .u32 d.val, .bool d.mark, .slice (some ⟨b0, o0, none⟩) (m1 + 1 + 1) kc] 28)) W → W.cell? ⟨b0, o0, none⟩ = some (Value.int .i64 d0.kind) ∧ W.cell? ⟨b0, o0 + 1, none⟩ = some (Value.string d0.nm) ∧ W.cell? ⟨b0, o0 + 2, none⟩ = some (Value.int .u32 d0.val) ∧ W.cell? ⟨b0, o0 + 3, none⟩ = some (Value.bool d0.mark) ∧ W.cell? ⟨b0, o0 + 4, none⟩ = some (Value.slice kA0 kn0 kc0)) := Go.Lib.hid fun W hW => by
    have hq := hw0.trans hW
    exact ⟨hq.cell e0 id, hq.cell e1 id, hq.cell e2 id, hq.cell e3 id, hq.cell e4 id⟩
  have HN0 : Hid (∀ W, Chg NoB (w.alloc (.cells #[.int .i64 d.kind, .string d.nm, .int .u32 d.val, .bool d.mark, .slice (some ⟨b0, o0, none⟩) (m1 + 1 + 1) kc] 28)) W → IsN W d0 k0 kA0 kn0 kc0) := Go.Lib.hid fun W hW => ⟨ok0, le0, most0, hk0.chg (hw0.trans hW)⟩
  clear e0 e1 e2 e3 e4
  have HK1 : Hid (∀ W, Chg NoB (w.alloc (.cells #[.int .i64 d.kind, .string d.nm, .int .u32 d.val, .bool d.mark, .slice (some ⟨b0, o0, none⟩) (m1 + 1 + 1) kc] 28)) W → W.cell? ⟨b0, o0 + 5, none⟩ = some (Value.int .i64 d1.kind) ∧ W.cell? ⟨b0, o0 + 5 + 1, none⟩ = some (Value.string d1.nm) ∧ W.cell? ⟨b0, o0 + 5 + 2, none⟩ = some (Value.int .u32 d1.val) ∧ W.cell? ⟨b0, o0 + 5 + 3, none⟩ = some (Value.bool d1.mark) ∧ W.cell? ⟨b0, o0 + 5 + 4, none⟩ = some (Value.slice kA1 kn1 kc1)) := Go.Lib.hid fun W hW => by
    have hq := hw0.trans hW
    exact ⟨hq.cell g0 id, hq.cell g1 id, hq.cell g2 id, hq.cell g3 id, hq.cell g4 id⟩
  have HN1 : Hid (∀ W, Chg NoB (w.alloc (.cells #[.int .i64 d.kind, .string d.nm, .int .u32 d.val, .bool d.mark, .slice (some ⟨b0, o0, none⟩) (m1 + 1 + 1) kc] 28)) W → IsN W d1 k1 kA1 kn1 kc1) := Go.Lib.hid fun W hW => ⟨ok1, le1, most1, hk1.chg (hw0.trans hW)⟩
  clear g0 g1 g2 g3 g4
  have H0 := Go.Lib.hid hw0
  clear h1 his hkind hlen hw0
  unfold nodeV
  go_enter Try.func47, Try.ntmps47
  go_wp2_with fail
  refine H1.out.mono ?_
  rintro e w1 ⟨rfl, hc⟩
  obtain ⟨hb0, hb1, hb2, hb3, hb4⟩ := box5 hc
  have HC := Go.Lib.hid hc
  clear hc
  obtain ⟨e0, e1, e2, e3, e4⟩ := HK0.out _ HC.out
  obtain ⟨g0, g1, g2, g3, g4⟩ := HK1.out _ HC.out
  go_wp2_with (first
    | (go_at_call 54
       refine (hd0.out kA0 kn0 kc0 _ (Hv.out _ HC.out) (HN0.out _ HC.out)).mono ?_
       rintro e w1 ⟨rfl, hc⟩
       have HC := Go.Lib.hid (HC.out.trans hc)
       clear hc hb0 hb1 hb2 hb3 hb4
       obtain ⟨hb0, hb1, hb2, hb3, hb4⟩ := box5 HC.out
       clear e0 e1 e2 e3 e4
       obtain ⟨e0, e1, e2, e3, e4⟩ := HK0.out _ HC.out
       clear g0 g1 g2 g3 g4
       obtain ⟨g0, g1, g2, g3, g4⟩ := HK1.out _ HC.out)
    | (go_at_call 28
       refine (he1.out kA1 kn1 kc1 _ (Hv.out _ HC.out) (HN1.out _ HC.out)).mono ?_
       rintro e w1 ⟨rfl, hc⟩
       have HC := Go.Lib.hid (HC.out.trans hc)
       clear hc hb0 hb1 hb2 hb3 hb4
       obtain ⟨hb0, hb1, hb2, hb3, hb4⟩ := box5 HC.out
       clear e0 e1 e2 e3 e4
       obtain ⟨e0, e1, e2, e3, e4⟩ := HK0.out _ HC.out
       clear g0 g1 g2 g3 g4
       obtain ⟨g0, g1, g2, g3, g4⟩ := HK1.out _ HC.out))
  all_goals
    go_ret
    exact ⟨congrArg (fun b => Ending.returned (.bool b)) (by rw [Heq.out]; try simp [*]), H0.out.trans HC.out⟩

set_option maxHeartbeats 400000 in
theorem stm21 (d : Own) (ks : F) (kA : Option Addr) (kn kc : Nat) (w : World) (hv : Var0 w) (hN : IsN w d ks kA kn kc) (hkind : d.kind = 21) :
    Calls Try.prog 47 #[nodeV d kA kn kc] w (fun e w' => e = .returned (.bool (stmtT d ks)) ∧ Chg NoB w w') := by
  have t20 : (d.kind == 20) = false := by simp [hkind]
  have t21 : (d.kind == 21) = true := by simp [hkind]
  have hw0 : Chg NoB w (w.alloc (.cells #[.int .i64 d.kind, .string d.nm, .int .u32 d.val, .bool d.mark, .slice kA kn kc] 28)) := (Chg.refl _ _).alloc _
  have h1 := Level_c d ks kA kn kc _ (hv.chg hw0) (hN.chg hw0)
  unfold nodeV at h1
  have Heq : Hid (stmtT d ks = (levT d ks == 0)) := Go.Lib.hid (by show stmtM d _ _ _ = _; unfold stmtM; simp only [t20, t21, Bool.false_eq_true, if_false, if_true]; rfl)
  have H1 := Go.Lib.hid h1
  have H0 := Go.Lib.hid hw0
  clear h1 hw0 hv hN hkind
  unfold nodeV
  go_enter Try.func47, Try.ntmps47
  go_wp2_with fail
  refine H1.out.mono ?_
  rintro e w1 ⟨rfl, hc⟩
  go_wp2_with fail
  go_ret
  exact ⟨by rw [Heq.out]; rfl, H0.out.trans hc⟩
theorem stm_other (d : Own) (ks : F) (kA : Option Addr) (kn kc : Nat) (w : World) (hn20 : d.kind ≠ 20) (hn21 : d.kind ≠ 21) (hn22 : d.kind ≠ 22) (hn23 : d.kind ≠ 23) (hn24 : d.kind ≠ 24) :
    Calls Try.prog 47 #[nodeV d kA kn kc] w (fun e w' => e = .returned (.bool (stmtT d ks)) ∧ Chg NoB w w') := by
  have t20 : (d.kind == 20) = false := by simpa using hn20
  have t21 : (d.kind == 21) = false := by simpa using hn21
  have t22 : (d.kind == 22) = false := by simpa using hn22
  have t23 : (d.kind == 23) = false := by simpa using hn23
  have t24 : (d.kind == 24) = false := by simpa using hn24
  have Heq : Hid (stmtT d ks = false) := Go.Lib.hid (by show stmtM d _ _ _ = _; unfold stmtM; simp only [t20, t21, t22, t23, t24, Bool.false_eq_true, if_false])
  clear hn20 hn21 hn22 hn23 hn24
  unfold nodeV
  go_enter Try.func47, Try.ntmps47
  go_wp2_with fail
  go_ret
  exact ⟨by rw [Heq.out]; rfl, (Chg.refl _ _).alloc _⟩

set_option maxHeartbeats 400000 in
theorem stm22a_false (d : Own) (ks : F) (kA : Option Addr) (kn kc : Nat) (w : World) (hv : Var0 w) (hN : IsN w d ks kA kn kc) (hkind : d.kind = 22) (his : isT d (F.len ks) d.kind pK (-1) = false) :
    Calls Try.prog 47 #[nodeV d kA kn kc] w (fun e w' => e = .returned (.bool (stmtT d ks)) ∧ Chg NoB w w') := by
  have hlen := hN.kids.len
  have hw0 : Chg NoB w (w.alloc (.cells #[.int .i64 d.kind, .string d.nm, .int .u32 d.val, .bool d.mark, .slice kA kn kc] 28)) := (Chg.refl _ _).alloc _
  have h1 := is_c d hN.ok kA kn kc (Nat.le_trans hN.le hN.most) d.kind pK (by decide) (-1) (w.alloc (.cells #[.int .i64 d.kind, .string d.nm, .int .u32 d.val, .bool d.mark, .slice kA kn kc] 28)) (hv.chg hw0)
  rw [hlen, his, ← hlen] at h1
  unfold nodeV pK at h1
  have H1 := Go.Lib.hid h1
  have t20 : (d.kind == 20) = false := by simp [hkind]
  have t21 : (d.kind == 21) = false := by simp [hkind]
  have t22 : (d.kind == 22) = true := by simp [hkind]
  have Heq : Hid (stmtT d ks = false) := Go.Lib.hid (by show stmtM d _ _ _ = _; unfold stmtM; simp [t22, his, t20, t21])
  have H0 := Go.Lib.hid hw0
  clear h1 his hkind hlen hw0
  unfold nodeV
  go_enter Try.func47, Try.ntmps47
  go_wp2_with fail
  refine H1.out.mono ?_
  rintro e w1 ⟨rfl, hc⟩
  obtain ⟨hb0, hb1, hb2, hb3, hb4⟩ := box5 hc
  have HC := Go.Lib.hid hc
  clear hc
  go_wp2_with fail
  go_ret
  exact ⟨congrArg (fun b => Ending.returned (.bool b)) Heq.out.symm, H0.out.trans HC.out⟩
set_option maxHeartbeats 400000 in
theorem stm22a_true (d : Own) (ks : F) (kA : Option Addr) (kn kc : Nat) (w : World) (hv : Var0 w) (hN : IsN w d ks kA kn kc) (hkind : d.kind = 22) (hes : F.All (MayC 28 expT) ks) (hss : F.All (MayC 29 stmtsT) ks) (h2k : 2 ≤ ks.len) (his : isT d (F.len ks) d.kind pK (-1) = true) :
    Calls Try.prog 47 #[nodeV d kA kn kc] w (fun e w' => e = .returned (.bool (stmtT d ks)) ∧ Chg NoB w w') := by
  have hlen := hN.kids.len
  have hw0 : Chg NoB w (w.alloc (.cells #[.int .i64 d.kind, .string d.nm, .int .u32 d.val, .bool d.mark, .slice kA kn kc] 28)) := (Chg.refl _ _).alloc _
  have h1 := is_c d hN.ok kA kn kc (Nat.le_trans hN.le hN.most) d.kind pK (by decide) (-1) (w.alloc (.cells #[.int .i64 d.kind, .string d.nm, .int .u32 d.val, .bool d.mark, .slice kA kn kc] 28)) (hv.chg hw0)
  rw [hlen, his, ← hlen] at h1
  unfold nodeV pK at h1
  have H1 := Go.Lib.hid h1
  have t20 : (d.kind == 20) = false := by simp [hkind]
  have t21 : (d.kind == 21) = false := by simp [hkind]
  have t22 : (d.kind == 22) = true := by simp [hkind]
  have Heq := Go.Lib.hid (show stmtT d ks = brT ks by show stmtM d _ _ _ = _; unfold stmtM; simp only [t20, t21, t22, his, Bool.false_eq_true, if_false, if_true, Bool.true_and]; rw [decide_eq_true h2k]; rfl)
  have Hv : Hid (∀ W, Chg NoB (w.alloc (.cells #[.int .i64 d.kind, .string d.nm, .int .u32 d.val, .bool d.mark, .slice kA kn kc] 28)) W → Var0 W) := Go.Lib.hid fun W hW => hv.chg (hw0.trans hW)
  have hk2 : 2 ≤ kn := by rw [hlen]; exact h2k
  have HALLN : Hid (kn ≤ kc ∧ kc ≤ maxLen) := Go.Lib.hid ⟨hN.le, hN.most⟩
  have HALLL : Hid (∀ W, Chg NoB (w.alloc (.cells #[.int .i64 d.kind, .string d.nm, .int .u32 d.val, .bool d.mark, .slice kA kn kc] 28)) W → IsL W kA kn ks) := Go.Lib.hid fun W hW => hN.kids.chg (hw0.trans hW)
  have HBR : Hid (∀ W, Chg NoB (w.alloc (.cells #[.int .i64 d.kind, .string d.nm, .int .u32 d.val, .bool d.mark, .slice kA kn kc] 28)) W → Calls Try.prog 58 #[.slice kA kn kc] W fun e w' => e = .returned (.bool (brT ks)) ∧ Chg NoB W w') := Go.Lib.hid fun W hW => branches_c ks hes hss _ _ _ HALLN.out.1 HALLN.out.2 W (Hv.out W hW) (HALLL.out W hW)
  have H0 := Go.Lib.hid hw0
  clear h1 his hkind hlen hw0
  unfold nodeV
  go_enter Try.func47, Try.ntmps47
  go_wp2_with fail
  refine H1.out.mono ?_
  rintro e w1 ⟨rfl, hc⟩
  obtain ⟨hb0, hb1, hb2, hb3, hb4⟩ := box5 hc
  have HC := Go.Lib.hid hc
  clear hc
  go_wp2_with (first
    | (go_at_call 58
       refine (HBR.out _ HC.out).mono ?_
       rintro e w1 ⟨rfl, hc⟩
       have HC := Go.Lib.hid (HC.out.trans hc)
       clear hc hb0 hb1 hb2 hb3 hb4
       obtain ⟨hb0, hb1, hb2, hb3, hb4⟩ := box5 HC.out))
  all_goals
    go_ret
    exact ⟨congrArg (fun b => Ending.returned (.bool b)) (by rw [Heq.out]; try simp [*]), H0.out.trans HC.out⟩

set_option maxHeartbeats 400000 in
theorem stm22b_true (d : Own) (ks : F) (kA : Option Addr) (kn kc : Nat) (w : World) (hv : Var0 w) (hN : IsN w d ks kA kn kc) (hkind : d.kind = 22) (h2k : ¬ 2 ≤ ks.len) (his : isT d (F.len ks) d.kind pK (-1) = true) :
    Calls Try.prog 47 #[nodeV d kA kn kc] w (fun e w' => e = .returned (.bool (stmtT d ks)) ∧ Chg NoB w w') := by
  have hlen := hN.kids.len
  have hw0 : Chg NoB w (w.alloc (.cells #[.int .i64 d.kind, .string d.nm, .int .u32 d.val, .bool d.mark, .slice kA kn kc] 28)) := (Chg.refl _ _).alloc _
  have h1 := is_c d hN.ok kA kn kc (Nat.le_trans hN.le hN.most) d.kind pK (by decide) (-1) (w.alloc (.cells #[.int .i64 d.kind, .string d.nm, .int .u32 d.val, .bool d.mark, .slice kA kn kc] 28)) (hv.chg hw0)
  rw [hlen, his, ← hlen] at h1
  unfold nodeV pK at h1
  have H1 := Go.Lib.hid h1
  have t20 : (d.kind == 20) = false := by simp [hkind]
  have t21 : (d.kind == 21) = false := by simp [hkind]
  have t22 : (d.kind == 22) = true := by simp [hkind]
  have Heq := Go.Lib.hid (show stmtT d ks = false by show stmtM d _ _ _ = _; unfold stmtM; simp only [t20, t21, t22, his, Bool.false_eq_true, if_false, if_true, Bool.true_and]; rw [decide_eq_false h2k]; rfl)
  have Hv : Hid (∀ W, Chg NoB (w.alloc (.cells #[.int .i64 d.kind, .string d.nm, .int .u32 d.val, .bool d.mark, .slice kA kn kc] 28)) W → Var0 W) := Go.Lib.hid fun W hW => hv.chg (hw0.trans hW)
  have hk2 : (kn : Int) < 2 := by rw [hlen]; omega
  have H0 := Go.Lib.hid hw0
  clear h1 his hkind hlen hw0
  unfold nodeV
  go_enter Try.func47, Try.ntmps47
  go_wp2_with fail
  refine H1.out.mono ?_
  rintro e w1 ⟨rfl, hc⟩
  obtain ⟨hb0, hb1, hb2, hb3, hb4⟩ := box5 hc
  have HC := Go.Lib.hid hc
  clear hc
  go_wp2_with fail
  all_goals
    go_ret
    exact ⟨congrArg (fun b => Ending.returned (.bool b)) (by rw [Heq.out]; try simp [*]), H0.out.trans HC.out⟩

set_option maxHeartbeats 400000 in
theorem stm23_false (d : Own) (ks : F) (kA : Option Addr) (kn kc : Nat) (w : World) (hv : Var0 w) (hN : IsN w d ks kA kn kc) (hkind : d.kind = 23) (his : isT d (F.len ks) d.kind pK (2) = false) :
    Calls Try.prog 47 #[nodeV d kA kn kc] w (fun e w' => e = .returned (.bool (stmtT d ks)) ∧ Chg NoB w w') := by
  have hlen := hN.kids.len
  have hw0 : Chg NoB w (w.alloc (.cells #[.int .i64 d.kind, .string d.nm, .int .u32 d.val, .bool d.mark, .slice kA kn kc] 28)) := (Chg.refl _ _).alloc _
  have h1 := is_c d hN.ok kA kn kc (Nat.le_trans hN.le hN.most) d.kind pK (by decide) (2) (w.alloc (.cells #[.int .i64 d.kind, .string d.nm, .int .u32 d.val, .bool d.mark, .slice kA kn kc] 28)) (hv.chg hw0)
  rw [hlen, his, ← hlen] at h1
  unfold nodeV pK at h1
  have H1 := Go.Lib.hid h1
  have t20 : (d.kind == 20) = false := by simp [hkind]
  have t21 : (d.kind == 21) = false := by simp [hkind]
  have t22 : (d.kind == 22) = false := by simp [hkind]
  have t23 : (d.kind == 23) = true := by simp [hkind]
  have Heq : Hid (stmtT d ks = false) := Go.Lib.hid (by show stmtM d _ _ _ = _; unfold stmtM; simp [t23, his, t20, t21, t22])
  have H0 := Go.Lib.hid hw0
  clear h1 his hkind hlen hw0
  unfold nodeV
  go_enter Try.func47, Try.ntmps47
  go_wp2_with fail
  refine H1.out.mono ?_
  rintro e w1 ⟨rfl, hc⟩
  obtain ⟨hb0, hb1, hb2, hb3, hb4⟩ := box5 hc
  have HC := Go.Lib.hid hc
  clear hc
  go_wp2_with fail
  go_ret
  exact ⟨congrArg (fun b => Ending.returned (.bool b)) Heq.out.symm, H0.out.trans HC.out⟩
set_option maxHeartbeats 400000 in
theorem stm23_true (d : Own) (d0 : Own) (k0 : F) (d1 : Own) (k1 r : F) (kA : Option Addr) (kn kc : Nat) (w : World) (hv : Var0 w) (hN : IsN w d (.cons d0 k0 (.cons d1 k1 r)) kA kn kc) (hkind : d.kind = 23) (he0 : Hid (MayC 28 expT d0 k0)) (hs1 : Hid (MayC 29 stmtsT d1 k1)) (his : isT d (F.len (.cons d0 k0 (.cons d1 k1 r))) d.kind pK (2) = true) :
    Calls Try.prog 47 #[nodeV d kA kn kc] w (fun e w' => e = .returned (.bool (stmtT d (.cons d0 k0 (.cons d1 k1 r)))) ∧ Chg NoB w w') := by
  have hlen := hN.kids.len
  have hw0 : Chg NoB w (w.alloc (.cells #[.int .i64 d.kind, .string d.nm, .int .u32 d.val, .bool d.mark, .slice kA kn kc] 28)) := (Chg.refl _ _).alloc _
  have h1 := is_c d hN.ok kA kn kc (Nat.le_trans hN.le hN.most) d.kind pK (by decide) (2) (w.alloc (.cells #[.int .i64 d.kind, .string d.nm, .int .u32 d.val, .bool d.mark, .slice kA kn kc] 28)) (hv.chg hw0)
  rw [hlen, his, ← hlen] at h1
  unfold nodeV pK at h1
  have H1 := Go.Lib.hid h1
  have t20 : (d.kind == 20) = false := by simp [hkind]
  have t21 : (d.kind == 21) = false := by simp [hkind]
  have t22 : (d.kind == 22) = false := by simp [hkind]
  have t23 : (d.kind == 23) = true := by simp [hkind]
  have Heq := Go.Lib.hid (show stmtT d (.cons d0 k0 (.cons d1 k1 r)) = (expT d0 k0 && stmtsT d1 k1) by show stmtM d _ _ _ = _; unfold stmtM; simp only [t20, t21, t22, t23, his, if_true, Bool.true_and, Bool.false_eq_true, if_false]; rfl)
  have Hv : Hid (∀ W, Chg NoB (w.alloc (.cells #[.int .i64 d.kind, .string d.nm, .int .u32 d.val, .bool d.mark, .slice kA kn kc] 28)) W → Var0 W) := Go.Lib.hid fun W hW => hv.chg (hw0.trans hW)
  have hkids := hN.kids
  obtain ⟨b0, o0, kA0, kn0, kc0, m0, hA0, rfl, ok0, le0, most0, e0, e1, e2, e3, e4, hk0, hr0⟩ := hkids
  subst hA0
  obtain ⟨b1, o1, kA1, kn1, kc1, m1, hA1, rfl, ok1, le1, most1, g0, g1, g2, g3, g4, hk1, hr1⟩ := hr0
  injection hA1 with hA1
  injection hA1 with hA1 hA2
  subst hA1
  subst hA2
  have HK0 : Hid (∀ W, Chg NoB (w.alloc (.cells #[.int .i64 d.kind, .string d.nm, .int .u32 d.val, .bool d.mark, .slice (some ⟨b0, o0, none⟩) (m1 + 1 + 1) kc] 28)) W → W.cell? ⟨b0, o0, none⟩ = some (Value.int .i64 d0.kind) ∧ W.cell? ⟨b0, o0 + 1, none⟩ = some (Value.string d0.nm) ∧ W.cell? ⟨b0, o0 + 2, none⟩ = some (Value.int .u32 d0.val) ∧ W.cell? ⟨b0, o0 + 3, none⟩ = some (Value.bool d0.mark) ∧ W.cell? ⟨b0, o0 + 4, none⟩ = some (Value.slice kA0 kn0 kc0)) := Go.Lib.hid fun W hW => by
    have hq := hw0.trans hW
    exact ⟨hq.cell e0 id, hq.cell e1 id, hq.cell e2 id, hq.cell e3 id, hq.cell e4 id⟩
  have HN0 : Hid (∀ W, Chg NoB (w.alloc (.cells #[.int .i64 d.kind, .string d.nm, .int .u32 d.val, .bool d.mark, .slice (some ⟨b0, o0, none⟩) (m1 + 1 + 1) kc] 28)) W → IsN W d0 k0 kA0 kn0 kc0) := Go.Lib.hid fun W hW => ⟨ok0, le0, most0, hk0.chg (hw0.trans hW)⟩
  clear e0 e1 e2 e3 e4
  have HK1 : Hid (∀ W, Chg NoB (w.alloc (.cells #[.int .i64 d.kind, .string d.nm, .int .u32 d.val, .bool d.mark, .slice (some ⟨b0, o0, none⟩) (m1 + 1 + 1) kc] 28)) W → W.cell? ⟨b0, o0 + 5, none⟩ = some (Value.int .i64 d1.kind) ∧ W.cell? ⟨b0, o0 + 5 + 1, none⟩ = some (Value.string d1.nm) ∧ W.cell? ⟨b0, o0 + 5 + 2, none⟩ = some (Value.int .u32 d1.val) ∧ W.cell? ⟨b0, o0 + 5 + 3, none⟩ = some (Value.bool d1.mark) ∧ W.cell? ⟨b0, o0 + 5 + 4, none⟩ = some (Value.slice kA1 kn1 kc1)) := Go.Lib.hid fun W hW => by
    have hq := hw0.trans hW
    exact ⟨hq.cell g0 id, hq.cell g1 id, hq.cell g2 id, hq.cell g3 id, hq.cell g4 id⟩
  have HN1 : Hid (∀ W, Chg NoB (w.alloc (.cells #[.int .i64 d.kind, .string d.nm, .int .u32 d.val, .bool d.mark, .slice (some ⟨b0, o0, none⟩) (m1 + 1 + 1) kc] 28)) W → IsN W d1 k1 kA1 kn1 kc1) := Go.Lib.hid fun W hW => ⟨ok1, le1, most1, hk1.chg (hw0.trans hW)⟩
  clear g0 g1 g2 g3 g4
  have H0 := Go.Lib.hid hw0
  clear h1 his hkind hlen hw0
  unfold nodeV
  go_enter Try.func47, Try.ntmps47
  go_wp2_with fail
  refine H1.out.mono ?_
  rintro e w1 ⟨rfl, hc⟩
  obtain ⟨hb0, hb1, hb2, hb3, hb4⟩ := box5 hc
  have HC := Go.Lib.hid hc
  clear hc
  obtain ⟨e0, e1, e2, e3, e4⟩ := HK0.out _ HC.out
  obtain ⟨g0, g1, g2, g3, g4⟩ := HK1.out _ HC.out
  go_wp2_with (first
    | (go_at_call 28
       refine (he0.out kA0 kn0 kc0 _ (Hv.out _ HC.out) (HN0.out _ HC.out)).mono ?_
       rintro e w1 ⟨rfl, hc⟩
       have HC := Go.Lib.hid (HC.out.trans hc)
       clear hc hb0 hb1 hb2 hb3 hb4
       obtain ⟨hb0, hb1, hb2, hb3, hb4⟩ := box5 HC.out
       clear e0 e1 e2 e3 e4
       obtain ⟨e0, e1, e2, e3, e4⟩ := HK0.out _ HC.out
       clear g0 g1 g2 g3 g4
       obtain ⟨g0, g1, g2, g3, g4⟩ := HK1.out _ HC.out)
    | (go_at_call 29
       refine (hs1.out kA1 kn1 kc1 _ (Hv.out _ HC.out) (HN1.out _ HC.out)).mono ?_
       rintro e w1 ⟨rfl, hc⟩
       have HC := Go.Lib.hid (HC.out.trans hc)
       clear hc hb0 hb1 hb2 hb3 hb4
       obtain ⟨hb0, hb1, hb2, hb3, hb4⟩ := box5 HC.out
       clear e0 e1 e2 e3 e4
       obtain ⟨e0, e1, e2, e3, e4⟩ := HK0.out _ HC.out
       clear g0 g1 g2 g3 g4
       obtain ⟨g0, g1, g2, g3, g4⟩ := HK1.out _ HC.out))
  all_goals
    go_ret
    exact ⟨congrArg (fun b => Ending.returned (.bool b)) (by rw [Heq.out]; try simp [*]), H0.out.trans HC.out⟩

set_option maxHeartbeats 400000 in
theorem stm24_false (d : Own) (ks : F) (kA : Option Addr) (kn kc : Nat) (w : World) (hv : Var0 w) (hN : IsN w d ks kA kn kc) (hkind : d.kind = 24) (his : isT d (F.len ks) d.kind pK (2) = false) :
    Calls Try.prog 47 #[nodeV d kA kn kc] w (fun e w' => e = .returned (.bool (stmtT d ks)) ∧ Chg NoB w w') := by
  have hlen := hN.kids.len
  have hw0 : Chg NoB w (w.alloc (.cells #[.int .i64 d.kind, .string d.nm, .int .u32 d.val, .bool d.mark, .slice kA kn kc] 28)) := (Chg.refl _ _).alloc _
  have h1 := is_c d hN.ok kA kn kc (Nat.le_trans hN.le hN.most) d.kind pK (by decide) (2) (w.alloc (.cells #[.int .i64 d.kind, .string d.nm, .int .u32 d.val, .bool d.mark, .slice kA kn kc] 28)) (hv.chg hw0)
  rw [hlen, his, ← hlen] at h1
  unfold nodeV pK at h1
  have H1 := Go.Lib.hid h1
  have t20 : (d.kind == 20) = false := by simp [hkind]
  have t21 : (d.kind == 21) = false := by simp [hkind]
  have t22 : (d.kind == 22) = false := by simp [hkind]
  have t23 : (d.kind == 23) = false := by simp [hkind]
  have t24 : (d.kind == 24) = true := by simp [hkind]
  have Heq : Hid (stmtT d ks = false) := Go.Lib.hid (by show stmtM d _ _ _ = _; unfold stmtM; simp [t24, his, t20, t21, t22, t23])
  have H0 := Go.Lib.hid hw0
  clear h1 his hkind hlen hw0
  unfold nodeV
  go_enter Try.func47, Try.ntmps47
  go_wp2_with fail
  refine H1.out.mono ?_
  rintro e w1 ⟨rfl, hc⟩
  obtain ⟨hb0, hb1, hb2, hb3, hb4⟩ := box5 hc
  have HC := Go.Lib.hid hc
  clear hc
  go_wp2_with fail
  go_ret
  exact ⟨congrArg (fun b => Ending.returned (.bool b)) Heq.out.symm, H0.out.trans HC.out⟩
set_option maxHeartbeats 400000 in
theorem stm24_true (d : Own) (d0 : Own) (k0 : F) (d1 : Own) (k1 r : F) (kA : Option Addr) (kn kc : Nat) (w : World) (hv : Var0 w) (hN : IsN w d (.cons d0 k0 (.cons d1 k1 r)) kA kn kc) (hkind : d.kind = 24) (hs0 : Hid (MayC 29 stmtsT d0 k0)) (he1 : Hid (MayC 28 expT d1 k1)) (his : isT d (F.len (.cons d0 k0 (.cons d1 k1 r))) d.kind pK (2) = true) :
    Calls Try.prog 47 #[nodeV d kA kn kc] w (fun e w' => e = .returned (.bool (stmtT d (.cons d0 k0 (.cons d1 k1 r)))) ∧ Chg NoB w w') := by
  have hlen := hN.kids.len
  have hw0 : Chg NoB w (w.alloc (.cells #[.int .i64 d.kind, .string d.nm, .int .u32 d.val, .bool d.mark, .slice kA kn kc] 28)) := (Chg.refl _ _).alloc _
  have h1 := is_c d hN.ok kA kn kc (Nat.le_trans hN.le hN.most) d.kind pK (by decide) (2) (w.alloc (.cells #[.int .i64 d.kind, .string d.nm, .int .u32 d.val, .bool d.mark, .slice kA kn kc] 28)) (hv.chg hw0)
  rw [hlen, his, ← hlen] at h1
  unfold nodeV pK at h1
  have H1 := Go.Lib.hid h1
  have t20 : (d.kind == 20) = false := by simp [hkind]
  have t21 : (d.kind == 21) = false := by simp [hkind]
  have t22 : (d.kind == 22) = false := by simp [hkind]
  have t23 : (d.kind == 23) = false := by simp [hkind]
  have t24 : (d.kind == 24) = true := by simp [hkind]
  have Heq := Go.Lib.hid (show stmtT d (.cons d0 k0 (.cons d1 k1 r)) = (stmtsT d0 k0 && expT d1 k1) by show stmtM d _ _ _ = _; unfold stmtM; simp only [t20, t21, t22, t23, t24, his, if_true, Bool.true_and, Bool.false_eq_true, if_false]; rfl)
  have Hv : Hid (∀ W, Chg NoB (w.alloc (.cells #[.int .i64 d.kind, .string d.nm, .int .u32 d.val, .bool d.mark, .slice kA kn kc] 28)) W → Var0 W) := Go.Lib.hid fun W hW => hv.chg (hw0.trans hW)
  have hkids := hN.kids
  obtain ⟨b0, o0, kA0, kn0, kc0, m0, hA0, rfl, ok0, le0, most0, e0, e1, e2, e3, e4, hk0, hr0⟩ := hkids
  subst hA0
  obtain ⟨b1, o1, kA1, kn1, kc1, m1, hA1, rfl, ok1, le1, most1, g0, g1, g2, g3, g4, hk1, hr1⟩ := hr0
  injection hA1 with hA1
  injection hA1 with hA1 hA2
  subst hA1
  subst hA2
  have HK0 : Hid (∀ W, Chg NoB (w.alloc (.cells #[.int .i64 d.kind, .string d.nm, .int .u32 d.val, .bool d.mark, .slice (some ⟨b0, o0, none⟩) (m1 + 1 + 1) kc] 28)) W → W.cell? ⟨b0, o0, none⟩ = some (Value.int .i64 d0.kind) ∧ W.cell? ⟨b0, o0 + 1, none⟩ = some (Value.string d0.nm) ∧ W.cell? ⟨b0, o0 + 2, none⟩ = some (Value.int .u32 d0.val) ∧ W.cell? ⟨b0, o0 + 3, none⟩ = some (Value.bool d0.mark) ∧ W.cell? ⟨b0, o0 + 4, none⟩ = some (Value.slice kA0 kn0 kc0)) := Go.Lib.hid fun W hW => by
    have hq := hw0.trans hW
    exact ⟨hq.cell e0 id, hq.cell e1 id, hq.cell e2 id, hq.cell e3 id, hq.cell e4 id⟩
  have HN0 : Hid (∀ W, Chg NoB (w.alloc (.cells #[.int .i64 d.kind, .string d.nm, .int .u32 d.val, .bool d.mark, .slice (some ⟨b0, o0, none⟩) (m1 + 1 + 1) kc] 28)) W → IsN W d0 k0 kA0 kn0 kc0) := Go.Lib.hid fun W hW => ⟨ok0, le0, most0, hk0.chg (hw0.trans hW)⟩
  clear e0 e1 e2 e3 e4
  have HK1 : Hid (∀ W, Chg NoB (w.alloc (.cells #[.int .i64 d.kind, .string d.nm, .int .u32 d.val, .bool d.mark, .slice (some ⟨b0, o0, none⟩) (m1 + 1 + 1) kc] 28)) W → W.cell? ⟨b0, o0 + 5, none⟩ = some (Value.int .i64 d1.kind) ∧ W.cell? ⟨b0, o0 + 5 + 1, none⟩ = some (Value.string d1.nm) ∧ W.cell? ⟨b0, o0 + 5 + 2, none⟩ = some (Value.int .u32 d1.val) ∧ W.cell? ⟨b0, o0 + 5 + 3, none⟩ = some (Value.bool d1.mark) ∧ W.cell? ⟨b0, o0 + 5 + 4, none⟩ = some (Value.slice kA1 kn1 kc1)) := Go.Lib.hid fun W hW => by
    have hq := hw0.trans hW
    exact ⟨hq.cell g0 id, hq.cell g1 id, hq.cell g2 id, hq.cell g3 id, hq.cell g4 id⟩
  have HN1 : Hid (∀ W, Chg NoB (w.alloc (.cells #[.int .i64 d.kind, .string d.nm, .int .u32 d.val, .bool d.mark, .slice (some ⟨b0, o0, none⟩) (m1 + 1 + 1) kc] 28)) W → IsN W d1 k1 kA1 kn1 kc1) := Go.Lib.hid fun W hW => ⟨ok1, le1, most1, hk1.chg (hw0.trans hW)⟩
  clear g0 g1 g2 g3 g4
  have H0 := Go.Lib.hid hw0
  clear h1 his hkind hlen hw0
  unfold nodeV
  go_enter Try.func47, Try.ntmps47
  go_wp2_with fail
  refine H1.out.mono ?_
  rintro e w1 ⟨rfl, hc⟩
  obtain ⟨hb0, hb1, hb2, hb3, hb4⟩ := box5 hc
  have HC := Go.Lib.hid hc
  clear hc
  obtain ⟨e0, e1, e2, e3, e4⟩ := HK0.out _ HC.out
  obtain ⟨g0, g1, g2, g3, g4⟩ := HK1.out _ HC.out
  go_wp2_with (first
    | (go_at_call 29
       refine (hs0.out kA0 kn0 kc0 _ (Hv.out _ HC.out) (HN0.out _ HC.out)).mono ?_
       rintro e w1 ⟨rfl, hc⟩
       have HC := Go.Lib.hid (HC.out.trans hc)
       clear hc hb0 hb1 hb2 hb3 hb4
       obtain ⟨hb0, hb1, hb2, hb3, hb4⟩ := box5 HC.out
       clear e0 e1 e2 e3 e4
       obtain ⟨e0, e1, e2, e3, e4⟩ := HK0.out _ HC.out
       clear g0 g1 g2 g3 g4
       obtain ⟨g0, g1, g2, g3, g4⟩ := HK1.out _ HC.out)
    | (go_at_call 28
       refine (he1.out kA1 kn1 kc1 _ (Hv.out _ HC.out) (HN1.out _ HC.out)).mono ?_
       rintro e w1 ⟨rfl, hc⟩
       have HC := Go.Lib.hid (HC.out.trans hc)
       clear hc hb0 hb1 hb2 hb3 hb4
       obtain ⟨hb0, hb1, hb2, hb3, hb4⟩ := box5 HC.out
       clear e0 e1 e2 e3 e4
       obtain ⟨e0, e1, e2, e3, e4⟩ := HK0.out _ HC.out
       clear g0 g1 g2 g3 g4
       obtain ⟨g0, g1, g2, g3, g4⟩ := HK1.out _ HC.out))
  all_goals
    go_ret
    exact ⟨congrArg (fun b => Ending.returned (.bool b)) (by rw [Heq.out]; try simp [*]), H0.out.trans HC.out⟩

theorem stmt_c (d : Own) (ks : F) (hd : ks.All (MayC 54 desT)) (he : ks.All (MayC 28 expT)) (hs : ks.All (MayC 29 stmtsT)) : MayC 47 stmtT d ks := by
  intro kA kn kc w hv hN
  by_cases h20 : d.kind = 20
  · cases his : isT d ks.len d.kind pK 2 with
    | false => exact stm20_false d ks kA kn kc w hv hN h20 his
    | true =>
      obtain ⟨d0, k0, d1, k1, rfl⟩ := len_two (isT_cnt his (by decide))
      exact stm20_true d d0 k0 d1 k1 .nil kA kn kc w hv hN h20 (Go.Lib.hid hd.1) (Go.Lib.hid he.2.1) his
  by_cases h21 : d.kind = 21
  · exact stm21 d ks kA kn kc w hv hN h21
  by_cases h22 : d.kind = 22
  · cases his : isT d ks.len d.kind pK (-1) with
    | false => exact stm22a_false d ks kA kn kc w hv hN h22 his
    | true =>
      by_cases h2k : 2 ≤ ks.len
      · exact stm22a_true d ks kA kn kc w hv hN h22 he hs h2k his
      · exact stm22b_true d ks kA kn kc w hv hN h22 h2k his
  by_cases h23 : d.kind = 23
  · cases his : isT d ks.len d.kind pK 2 with
    | false => exact stm23_false d ks kA kn kc w hv hN h23 his
    | true =>
      obtain ⟨d0, k0, d1, k1, rfl⟩ := len_two (isT_cnt his (by decide))
      exact stm23_true d d0 k0 d1 k1 .nil kA kn kc w hv hN h23 (Go.Lib.hid he.1) (Go.Lib.hid hs.2.1) his
  by_cases h24 : d.kind = 24
  · cases his : isT d ks.len d.kind pK 2 with
    | false => exact stm24_false d ks kA kn kc w hv hN h24 his
    | true =>
      obtain ⟨d0, k0, d1, k1, rfl⟩ := len_two (isT_cnt his (by decide))
      exact stm24_true d d0 k0 d1 k1 .nil kA kn kc w hv hN h24 (Go.Lib.hid hs.1) (Go.Lib.hid he.2.1) his
  exact stm_other d ks kA kn kc w h20 h21 h22 h23 h24

set_option maxHeartbeats 400000 in
theorem stmts_false (d : Own) (ks : F) (kA : Option Addr) (kn kc : Nat) (w : World) (hv : Var0 w) (hN : IsN w d ks kA kn kc) (his : isT d (F.len ks) 19 pK (-1) = false) :
    Calls Try.prog 29 #[nodeV d kA kn kc] w (fun e w' => e = .returned (.bool (stmtsT d ks)) ∧ Chg NoB w w') := by
  have hlen := hN.kids.len
  have hw0 : Chg NoB w (w.alloc (.cells #[.int .i64 d.kind, .string d.nm, .int .u32 d.val, .bool d.mark, .slice kA kn kc] 28)) := (Chg.refl _ _).alloc _
  have h1 := is_c d hN.ok kA kn kc (Nat.le_trans hN.le hN.most) 19 pK (by decide) (-1) (w.alloc (.cells #[.int .i64 d.kind, .string d.nm, .int .u32 d.val, .bool d.mark, .slice kA kn kc] 28)) (hv.chg hw0)
  rw [hlen, his, ← hlen] at h1
  unfold nodeV pK at h1
  have H1 := Go.Lib.hid h1
  have Heq : Hid (stmtsT d ks = false) := Go.Lib.hid (by show stmtsM d _ _ = _; unfold stmtsM; rw [his]; rfl)
  have H0 := Go.Lib.hid hw0
  clear h1 his hlen hw0
  unfold nodeV
  go_enter Try.func29, Try.ntmps29
  go_wp2_with fail
  refine H1.out.mono ?_
  rintro e w1 ⟨rfl, hc⟩
  obtain ⟨hb0, hb1, hb2, hb3, hb4⟩ := box5 hc
  have HC := Go.Lib.hid hc
  clear hc
  go_wp2_with fail
  go_ret
  exact ⟨congrArg (fun b => Ending.returned (.bool b)) Heq.out.symm, H0.out.trans HC.out⟩
set_option maxHeartbeats 400000 in
theorem stmts_true (d : Own) (ks : F) (kA : Option Addr) (kn kc : Nat) (w : World) (hv : Var0 w) (hN : IsN w d ks kA kn kc) (hall : F.All (MayC 47 stmtT) ks) (his : isT d (F.len ks) 19 pK (-1) = true) :
    Calls Try.prog 29 #[nodeV d kA kn kc] w (fun e w' => e = .returned (.bool (stmtsT d ks)) ∧ Chg NoB w w') := by
  have hlen := hN.kids.len
  have hw0 : Chg NoB w (w.alloc (.cells #[.int .i64 d.kind, .string d.nm, .int .u32 d.val, .bool d.mark, .slice kA kn kc] 28)) := (Chg.refl _ _).alloc _
  have h1 := is_c d hN.ok kA kn kc (Nat.le_trans hN.le hN.most) 19 pK (by decide) (-1) (w.alloc (.cells #[.int .i64 d.kind, .string d.nm, .int .u32 d.val, .bool d.mark, .slice kA kn kc] 28)) (hv.chg hw0)
  rw [hlen, his, ← hlen] at h1
  unfold nodeV pK at h1
  have H1 := Go.Lib.hid h1
  have Heq := Go.Lib.hid (show stmtsT d ks = F.all stmtT ks by show stmtsM d _ _ = _; unfold stmtsM; rw [his, Bool.true_and, F.all_att2]; rfl)
  have Hv : Hid (∀ W, Chg NoB (w.alloc (.cells #[.int .i64 d.kind, .string d.nm, .int .u32 d.val, .bool d.mark, .slice kA kn kc] 28)) W → Var0 W) := Go.Lib.hid fun W hW => hv.chg (hw0.trans hW)
  have HALLN : Hid (kn ≤ maxLen) := Go.Lib.hid (Nat.le_trans hN.le hN.most)
  have HALLL : Hid (∀ W, Chg NoB (w.alloc (.cells #[.int .i64 d.kind, .string d.nm, .int .u32 d.val, .bool d.mark, .slice kA kn kc] 28)) W → IsL W kA kn ks) := Go.Lib.hid fun W hW => hN.kids.chg (hw0.trans hW)
  have HALL : Hid (∀ W, Chg NoB (w.alloc (.cells #[.int .i64 d.kind, .string d.nm, .int .u32 d.val, .bool d.mark, .slice kA kn kc] 28)) W → Calls Try.prog 44 #[.slice kA kn kc, .func (.func 47) #[] #[]] W fun e w' => e = .returned (.bool (F.all stmtT ks)) ∧ Chg NoB W w') := Go.Lib.hid fun W hW => all_c _ cf_stmt stmtT ks hall _ _ _ HALLN.out W (Hv.out W hW) (HALLL.out W hW)
  have H0 := Go.Lib.hid hw0
  clear h1 his hlen hw0
  unfold nodeV
  go_enter Try.func29, Try.ntmps29
  go_wp2_with fail
  refine H1.out.mono ?_
  rintro e w1 ⟨rfl, hc⟩
  obtain ⟨hb0, hb1, hb2, hb3, hb4⟩ := box5 hc
  have HC := Go.Lib.hid hc
  clear hc
  go_wp2_with (first
    | (go_at_call 44
       refine (HALL.out _ HC.out).mono ?_
       rintro e w1 ⟨rfl, hc⟩
       have HC := Go.Lib.hid (HC.out.trans hc)
       clear hc hb0 hb1 hb2 hb3 hb4
       obtain ⟨hb0, hb1, hb2, hb3, hb4⟩ := box5 HC.out))
  all_goals
    go_ret
    exact ⟨congrArg (fun b => Ending.returned (.bool b)) (by rw [Heq.out]; try simp [*]), H0.out.trans HC.out⟩

theorem stmts_c (d : Own) (ks : F) (hs : ks.All (MayC 47 stmtT)) : MayC 29 stmtsT d ks := by
  intro kA kn kc w hv hN
  cases his : isT d ks.len 19 pK (-1) with
  | false => exact stmts_false d ks kA kn kc w hv hN his
  | true => exact stmts_true d ks kA kn kc w hv hN hs his

end Go.Proofs.Ytnihjkcniddepaa
