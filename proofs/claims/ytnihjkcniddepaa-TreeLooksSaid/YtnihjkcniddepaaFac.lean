/- What is proved: the contract of tree's factor at a node, out of the contracts at the nodes below it. Conditions: the library's variable holds a number. -/
import Derived.Test.YtnihjkcniddepaaText
namespace Go.Proofs.Ytnihjkcniddepaa
open Go.RowKit

set_option maxHeartbeats 400000 in
theorem fac21a_false (d : Own) (ks : F) (kA : Option Addr) (kn kc : Nat) (w : World) (hv : Var0 w) (hN : IsN w d ks kA kn kc) (hkind : d.kind = 21) (his : isT d (F.len ks) d.kind pK (-1) = false) :
    Calls Try.prog 41 #[nodeV d kA kn kc] w (fun e w' => e = .returned (.bool (facT d ks)) ∧ Chg NoB w w') := by
  have hlen := hN.kids.len
  have hw0 : Chg NoB w (w.alloc (.cells #[.int .i64 d.kind, .string d.nm, .int .u32 d.val, .bool d.mark, .slice kA kn kc] 28)) := (Chg.refl _ _).alloc _
  have h1 := is_c d hN.ok kA kn kc (Nat.le_trans hN.le hN.most) d.kind pK (by decide) (-1) (w.alloc (.cells #[.int .i64 d.kind, .string d.nm, .int .u32 d.val, .bool d.mark, .slice kA kn kc] 28)) (hv.chg hw0)
  rw [hlen, his, ← hlen] at h1
  unfold nodeV pK at h1
  have H1 := Go.Lib.hid h1
  have t21 : (d.kind == 21) = true := by simp [hkind]
  have Heq : Hid (facT d ks = false) := Go.Lib.hid (by unfold facT facM; simp [t21, his])
  have H0 := Go.Lib.hid hw0
  clear h1 his hkind hlen hw0
  unfold nodeV
  go_enter Try.func41, Try.ntmps41
  go_wp2_with fail
  refine H1.out.mono ?_
  rintro e w1 ⟨rfl, hc⟩
  obtain ⟨hb0, hb1, hb2, hb3, hb4⟩ := box5 hc
  have HC := Go.Lib.hid hc
  clear hc
  go_wp2_with fail
  go_ret
  exact ⟨congrArg (fun b => Ending.returned (.bool b)) Heq.out.symm, H0.out.trans HC.out⟩
set_option maxHeartbeats 400000 in
theorem fac21a_true (d : Own) (d0 : Own) (k0 r : F) (kA : Option Addr) (kn kc : Nat) (w : World) (hv : Var0 w) (hN : IsN w d (.cons d0 k0 r) kA kn kc) (hkind : d.kind = 21) (hd0 : Hid (MayC 54 desT d0 k0)) (hall : F.All (MayC 28 expT) r) (hkc : kc = 1) (his : isT d (F.len (.cons d0 k0 r)) d.kind pK (-1) = true) :
    Calls Try.prog 41 #[nodeV d kA kn kc] w (fun e w' => e = .returned (.bool (facT d (.cons d0 k0 r))) ∧ Chg NoB w w') := by
  have hlen := hN.kids.len
  have hw0 : Chg NoB w (w.alloc (.cells #[.int .i64 d.kind, .string d.nm, .int .u32 d.val, .bool d.mark, .slice kA kn kc] 28)) := (Chg.refl _ _).alloc _
  have h1 := is_c d hN.ok kA kn kc (Nat.le_trans hN.le hN.most) d.kind pK (by decide) (-1) (w.alloc (.cells #[.int .i64 d.kind, .string d.nm, .int .u32 d.val, .bool d.mark, .slice kA kn kc] 28)) (hv.chg hw0)
  rw [hlen, his, ← hlen] at h1
  unfold nodeV pK at h1
  have H1 := Go.Lib.hid h1
  have t21 : (d.kind == 21) = true := by simp [hkind]
  have Heq := Go.Lib.hid (show facT d (.cons d0 k0 r) = (desT d0 k0 && F.all expT r) by unfold facT facM; simp only [t21, his, if_true, Bool.true_and]; rw [← F.all_exp, show decide (1 ≤ F.len (.cons d0 k0 r)) = true from decide_eq_true (by simp [F.len])]; rfl)
  have Hv : Hid (∀ W, Chg NoB (w.alloc (.cells #[.int .i64 d.kind, .string d.nm, .int .u32 d.val, .bool d.mark, .slice kA kn kc] 28)) W → Var0 W) := Go.Lib.hid fun W hW => hv.chg (hw0.trans hW)
  have hkids := hN.kids
  obtain ⟨b0, o0, kA0, kn0, kc0, m0, hA0, rfl, ok0, le0, most0, e0, e1, e2, e3, e4, hk0, hr0⟩ := hkids
  subst hA0
  have HK0 : Hid (∀ W, Chg NoB (w.alloc (.cells #[.int .i64 d.kind, .string d.nm, .int .u32 d.val, .bool d.mark, .slice (some ⟨b0, o0, none⟩) (m0 + 1) kc] 28)) W → W.cell? ⟨b0, o0, none⟩ = some (Value.int .i64 d0.kind) ∧ W.cell? ⟨b0, o0 + 1, none⟩ = some (Value.string d0.nm) ∧ W.cell? ⟨b0, o0 + 2, none⟩ = some (Value.int .u32 d0.val) ∧ W.cell? ⟨b0, o0 + 3, none⟩ = some (Value.bool d0.mark) ∧ W.cell? ⟨b0, o0 + 4, none⟩ = some (Value.slice kA0 kn0 kc0)) := Go.Lib.hid fun W hW => by
    have hq := hw0.trans hW
    exact ⟨hq.cell e0 id, hq.cell e1 id, hq.cell e2 id, hq.cell e3 id, hq.cell e4 id⟩
  have HN0 : Hid (∀ W, Chg NoB (w.alloc (.cells #[.int .i64 d.kind, .string d.nm, .int .u32 d.val, .bool d.mark, .slice (some ⟨b0, o0, none⟩) (m0 + 1) kc] 28)) W → IsN W d0 k0 kA0 kn0 kc0) := Go.Lib.hid fun W hW => ⟨ok0, le0, most0, hk0.chg (hw0.trans hW)⟩
  clear e0 e1 e2 e3 e4
  have hle := hN.le
  have hmo := hN.most
  unfold maxLen at hmo
  obtain rfl : kc = 1 := hkc
  obtain rfl : m0 = 0 := by omega
  have HALLN : Hid (0 ≤ maxLen) := Go.Lib.hid (Nat.zero_le _)
  have HALLL : Hid (∀ W, Chg NoB (w.alloc (.cells #[.int .i64 d.kind, .string d.nm, .int .u32 d.val, .bool d.mark, .slice (some ⟨b0, o0, none⟩) (0 + 1) 1] 28)) W → IsL W (some ⟨b0, o0, none⟩) 0 r) := Go.Lib.hid fun W hW => by
    have := hr0.len
    cases r with
    | nil => exact rfl
    | cons _ _ _ => simp [F.len] at this
  have HALL : Hid (∀ W, Chg NoB (w.alloc (.cells #[.int .i64 d.kind, .string d.nm, .int .u32 d.val, .bool d.mark, .slice (some ⟨b0, o0, none⟩) (0 + 1) 1] 28)) W → Calls Try.prog 44 #[.slice (some ⟨b0, o0, none⟩) (0) (0), .func (.func 28) #[] #[]] W fun e w' => e = .returned (.bool (F.all expT r)) ∧ Chg NoB W w') := Go.Lib.hid fun W hW => all_c _ cf_MayExpr expT r hall _ _ _ HALLN.out W (Hv.out W hW) (HALLL.out W hW)
  have H0 := Go.Lib.hid hw0
  clear h1 his hkind hlen hw0
  unfold nodeV
  go_enter Try.func41, Try.ntmps41
  go_wp2_with fail
  refine H1.out.mono ?_
  rintro e w1 ⟨rfl, hc⟩
  obtain ⟨hb0, hb1, hb2, hb3, hb4⟩ := box5 hc
  have HC := Go.Lib.hid hc
  clear hc
  obtain ⟨e0, e1, e2, e3, e4⟩ := HK0.out _ HC.out
  go_wp2_with (first
    | (go_at_call 54
       refine (hd0.out kA0 kn0 kc0 _ (Hv.out _ HC.out) (HN0.out _ HC.out)).mono ?_
       rintro e w1 ⟨rfl, hc⟩
       have HC := Go.Lib.hid (HC.out.trans hc)
       clear hc hb0 hb1 hb2 hb3 hb4
       obtain ⟨hb0, hb1, hb2, hb3, hb4⟩ := box5 HC.out
       clear e0 e1 e2 e3 e4
       obtain ⟨e0, e1, e2, e3, e4⟩ := HK0.out _ HC.out)
    | (go_at_call 44
       refine (HALL.out _ HC.out).mono ?_
       rintro e w1 ⟨rfl, hc⟩
       have HC := Go.Lib.hid (HC.out.trans hc)
       clear hc hb0 hb1 hb2 hb3 hb4
       obtain ⟨hb0, hb1, hb2, hb3, hb4⟩ := box5 HC.out
       clear e0 e1 e2 e3 e4
       obtain ⟨e0, e1, e2, e3, e4⟩ := HK0.out _ HC.out))
  all_goals
    go_ret
    exact ⟨congrArg (fun b => Ending.returned (.bool b)) (by rw [Heq.out]; try simp [*]), H0.out.trans HC.out⟩

set_option maxHeartbeats 400000 in
theorem fac21b_true (d : Own) (d0 : Own) (k0 r : F) (kA : Option Addr) (kn kc : Nat) (w : World) (hv : Var0 w) (hN : IsN w d (.cons d0 k0 r) kA kn kc) (hkind : d.kind = 21) (hd0 : Hid (MayC 54 desT d0 k0)) (hall : F.All (MayC 28 expT) r) (hkc : ¬ kc = 1) (his : isT d (F.len (.cons d0 k0 r)) d.kind pK (-1) = true) :
    Calls Try.prog 41 #[nodeV d kA kn kc] w (fun e w' => e = .returned (.bool (facT d (.cons d0 k0 r))) ∧ Chg NoB w w') := by
  have hlen := hN.kids.len
  have hw0 : Chg NoB w (w.alloc (.cells #[.int .i64 d.kind, .string d.nm, .int .u32 d.val, .bool d.mark, .slice kA kn kc] 28)) := (Chg.refl _ _).alloc _
  have h1 := is_c d hN.ok kA kn kc (Nat.le_trans hN.le hN.most) d.kind pK (by decide) (-1) (w.alloc (.cells #[.int .i64 d.kind, .string d.nm, .int .u32 d.val, .bool d.mark, .slice kA kn kc] 28)) (hv.chg hw0)
  rw [hlen, his, ← hlen] at h1
  unfold nodeV pK at h1
  have H1 := Go.Lib.hid h1
  have t21 : (d.kind == 21) = true := by simp [hkind]
  have Heq := Go.Lib.hid (show facT d (.cons d0 k0 r) = (desT d0 k0 && F.all expT r) by unfold facT facM; simp only [t21, his, if_true, Bool.true_and]; rw [← F.all_exp, show decide (1 ≤ F.len (.cons d0 k0 r)) = true from decide_eq_true (by simp [F.len])]; rfl)
  have Hv : Hid (∀ W, Chg NoB (w.alloc (.cells #[.int .i64 d.kind, .string d.nm, .int .u32 d.val, .bool d.mark, .slice kA kn kc] 28)) W → Var0 W) := Go.Lib.hid fun W hW => hv.chg (hw0.trans hW)
  have hkids := hN.kids
  obtain ⟨b0, o0, kA0, kn0, kc0, m0, hA0, rfl, ok0, le0, most0, e0, e1, e2, e3, e4, hk0, hr0⟩ := hkids
  subst hA0
  have HK0 : Hid (∀ W, Chg NoB (w.alloc (.cells #[.int .i64 d.kind, .string d.nm, .int .u32 d.val, .bool d.mark, .slice (some ⟨b0, o0, none⟩) (m0 + 1) kc] 28)) W → W.cell? ⟨b0, o0, none⟩ = some (Value.int .i64 d0.kind) ∧ W.cell? ⟨b0, o0 + 1, none⟩ = some (Value.string d0.nm) ∧ W.cell? ⟨b0, o0 + 2, none⟩ = some (Value.int .u32 d0.val) ∧ W.cell? ⟨b0, o0 + 3, none⟩ = some (Value.bool d0.mark) ∧ W.cell? ⟨b0, o0 + 4, none⟩ = some (Value.slice kA0 kn0 kc0)) := Go.Lib.hid fun W hW => by
    have hq := hw0.trans hW
    exact ⟨hq.cell e0 id, hq.cell e1 id, hq.cell e2 id, hq.cell e3 id, hq.cell e4 id⟩
  have HN0 : Hid (∀ W, Chg NoB (w.alloc (.cells #[.int .i64 d.kind, .string d.nm, .int .u32 d.val, .bool d.mark, .slice (some ⟨b0, o0, none⟩) (m0 + 1) kc] 28)) W → IsN W d0 k0 kA0 kn0 kc0) := Go.Lib.hid fun W hW => ⟨ok0, le0, most0, hk0.chg (hw0.trans hW)⟩
  clear e0 e1 e2 e3 e4
  have hle := hN.le
  have hmo := hN.most
  unfold maxLen at hmo
  have HALLN : Hid (m0 ≤ maxLen) := Go.Lib.hid (by unfold maxLen; omega)
  have HALLL : Hid (∀ W, Chg NoB (w.alloc (.cells #[.int .i64 d.kind, .string d.nm, .int .u32 d.val, .bool d.mark, .slice (some ⟨b0, o0, none⟩) (m0 + 1) kc] 28)) W → IsL W (some ⟨b0, o0 + 5, none⟩) m0 r) := Go.Lib.hid fun W hW => hr0.chg (hw0.trans hW)
  have HALL : Hid (∀ W, Chg NoB (w.alloc (.cells #[.int .i64 d.kind, .string d.nm, .int .u32 d.val, .bool d.mark, .slice (some ⟨b0, o0, none⟩) (m0 + 1) kc] 28)) W → Calls Try.prog 44 #[.slice (some ⟨b0, o0 + 5, none⟩) (m0) (kc - 1), .func (.func 28) #[] #[]] W fun e w' => e = .returned (.bool (F.all expT r)) ∧ Chg NoB W w') := Go.Lib.hid fun W hW => all_c _ cf_MayExpr expT r hall _ _ _ HALLN.out W (Hv.out W hW) (HALLL.out W hW)
  have H0 := Go.Lib.hid hw0
  clear h1 his hkind hlen hw0
  unfold nodeV
  go_enter Try.func41, Try.ntmps41
  go_wp2_with fail
  refine H1.out.mono ?_
  rintro e w1 ⟨rfl, hc⟩
  obtain ⟨hb0, hb1, hb2, hb3, hb4⟩ := box5 hc
  have HC := Go.Lib.hid hc
  clear hc
  obtain ⟨e0, e1, e2, e3, e4⟩ := HK0.out _ HC.out
  go_wp2_with (first
    | (go_at_call 54
       refine (hd0.out kA0 kn0 kc0 _ (Hv.out _ HC.out) (HN0.out _ HC.out)).mono ?_
       rintro e w1 ⟨rfl, hc⟩
       have HC := Go.Lib.hid (HC.out.trans hc)
       clear hc hb0 hb1 hb2 hb3 hb4
       obtain ⟨hb0, hb1, hb2, hb3, hb4⟩ := box5 HC.out
       clear e0 e1 e2 e3 e4
       obtain ⟨e0, e1, e2, e3, e4⟩ := HK0.out _ HC.out)
    | (go_at_call 44
       refine (HALL.out _ HC.out).mono ?_
       rintro e w1 ⟨rfl, hc⟩
       have HC := Go.Lib.hid (HC.out.trans hc)
       clear hc hb0 hb1 hb2 hb3 hb4
       obtain ⟨hb0, hb1, hb2, hb3, hb4⟩ := box5 HC.out
       clear e0 e1 e2 e3 e4
       obtain ⟨e0, e1, e2, e3, e4⟩ := HK0.out _ HC.out))
  all_goals
    go_ret
    exact ⟨congrArg (fun b => Ending.returned (.bool b)) (by rw [Heq.out]; try simp [*]), H0.out.trans HC.out⟩

set_option maxHeartbeats 400000 in
theorem fac21n_true (d : Own) (ks : F) (kA : Option Addr) (kn kc : Nat) (w : World) (hv : Var0 w) (hN : IsN w d ks kA kn kc) (hkind : d.kind = 21) (hnil : ks.len = 0) (his : isT d (F.len ks) d.kind pK (-1) = true) :
    Calls Try.prog 41 #[nodeV d kA kn kc] w (fun e w' => e = .returned (.bool (facT d ks)) ∧ Chg NoB w w') := by
  have hlen := hN.kids.len
  have hw0 : Chg NoB w (w.alloc (.cells #[.int .i64 d.kind, .string d.nm, .int .u32 d.val, .bool d.mark, .slice kA kn kc] 28)) := (Chg.refl _ _).alloc _
  have h1 := is_c d hN.ok kA kn kc (Nat.le_trans hN.le hN.most) d.kind pK (by decide) (-1) (w.alloc (.cells #[.int .i64 d.kind, .string d.nm, .int .u32 d.val, .bool d.mark, .slice kA kn kc] 28)) (hv.chg hw0)
  rw [hlen, his, ← hlen] at h1
  unfold nodeV pK at h1
  have H1 := Go.Lib.hid h1
  have t21 : (d.kind == 21) = true := by simp [hkind]
  have Heq := Go.Lib.hid (show facT d ks = false by unfold facT facM; simp [t21, hnil])
  have Hv : Hid (∀ W, Chg NoB (w.alloc (.cells #[.int .i64 d.kind, .string d.nm, .int .u32 d.val, .bool d.mark, .slice kA kn kc] 28)) W → Var0 W) := Go.Lib.hid fun W hW => hv.chg (hw0.trans hW)
  obtain rfl : kn = 0 := by rw [hlen]; exact hnil
  have H0 := Go.Lib.hid hw0
  clear h1 his hkind hlen hw0
  unfold nodeV
  go_enter Try.func41, Try.ntmps41
  go_wp2_with fail
  refine H1.out.mono ?_
  rintro e w1 ⟨rfl, hc⟩
  obtain ⟨hb0, hb1, hb2, hb3, hb4⟩ := box5 hc
  have HC := Go.Lib.hid hc
  clear hc
  go_wp2_with fail
  all_goals
    go_ret
    exact ⟨congrArg (fun b => Ending.returned (.bool b)) (by rw [Heq.out]; try simp [*]), H0.out.trans HC.out⟩

set_option maxHeartbeats 400000 in
theorem fac25_false (d : Own) (ks : F) (kA : Option Addr) (kn kc : Nat) (w : World) (hv : Var0 w) (hN : IsN w d ks kA kn kc) (hkind : d.kind = 25) (his : isT d (F.len ks) d.kind pV (0) = false) :
    Calls Try.prog 41 #[nodeV d kA kn kc] w (fun e w' => e = .returned (.bool (facT d ks)) ∧ Chg NoB w w') := by
  have hlen := hN.kids.len
  have hw0 : Chg NoB w (w.alloc (.cells #[.int .i64 d.kind, .string d.nm, .int .u32 d.val, .bool d.mark, .slice kA kn kc] 28)) := (Chg.refl _ _).alloc _
  have h1 := is_c d hN.ok kA kn kc (Nat.le_trans hN.le hN.most) d.kind pV (by decide) (0) (w.alloc (.cells #[.int .i64 d.kind, .string d.nm, .int .u32 d.val, .bool d.mark, .slice kA kn kc] 28)) (hv.chg hw0)
  rw [hlen, his, ← hlen] at h1
  unfold nodeV pV at h1
  have H1 := Go.Lib.hid h1
  have t21 : (d.kind == 21) = false := by simp [hkind]
  have t25 : (d.kind == 25) = true := by simp [hkind]
  have Heq : Hid (facT d ks = false) := Go.Lib.hid (by unfold facT facM; simp [t21, t25, his])
  have H0 := Go.Lib.hid hw0
  clear h1 his hkind hlen hw0
  unfold nodeV
  go_enter Try.func41, Try.ntmps41
  go_wp2_with fail
  refine H1.out.mono ?_
  rintro e w1 ⟨rfl, hc⟩
  obtain ⟨hb0, hb1, hb2, hb3, hb4⟩ := box5 hc
  have HC := Go.Lib.hid hc
  clear hc
  go_wp2_with fail
  go_ret
  exact ⟨congrArg (fun b => Ending.returned (.bool b)) Heq.out.symm, H0.out.trans HC.out⟩
set_option maxHeartbeats 400000 in
theorem fac25_true (d : Own) (ks : F) (kA : Option Addr) (kn kc : Nat) (w : World) (hv : Var0 w) (hN : IsN w d ks kA kn kc) (hkind : d.kind = 25)  (his : isT d (F.len ks) d.kind pV (0) = true) :
    Calls Try.prog 41 #[nodeV d kA kn kc] w (fun e w' => e = .returned (.bool (facT d ks)) ∧ Chg NoB w w') := by
  have hlen := hN.kids.len
  have hw0 : Chg NoB w (w.alloc (.cells #[.int .i64 d.kind, .string d.nm, .int .u32 d.val, .bool d.mark, .slice kA kn kc] 28)) := (Chg.refl _ _).alloc _
  have h1 := is_c d hN.ok kA kn kc (Nat.le_trans hN.le hN.most) d.kind pV (by decide) (0) (w.alloc (.cells #[.int .i64 d.kind, .string d.nm, .int .u32 d.val, .bool d.mark, .slice kA kn kc] 28)) (hv.chg hw0)
  rw [hlen, his, ← hlen] at h1
  unfold nodeV pV at h1
  have H1 := Go.Lib.hid h1
  have t21 : (d.kind == 21) = false := by simp [hkind]
  have t25 : (d.kind == 25) = true := by simp [hkind]
  have Heq := Go.Lib.hid (show facT d ks = true by unfold facT facM; simp [t21, t25, his])
  have Hv : Hid (∀ W, Chg NoB (w.alloc (.cells #[.int .i64 d.kind, .string d.nm, .int .u32 d.val, .bool d.mark, .slice kA kn kc] 28)) W → Var0 W) := Go.Lib.hid fun W hW => hv.chg (hw0.trans hW)
  have H0 := Go.Lib.hid hw0
  clear h1 his hkind hlen hw0
  unfold nodeV
  go_enter Try.func41, Try.ntmps41
  go_wp2_with fail
  refine H1.out.mono ?_
  rintro e w1 ⟨rfl, hc⟩
  obtain ⟨hb0, hb1, hb2, hb3, hb4⟩ := box5 hc
  have HC := Go.Lib.hid hc
  clear hc
  go_wp2_with fail
  all_goals
    go_ret
    exact ⟨congrArg (fun b => Ending.returned (.bool b)) (by rw [Heq.out]; try simp [*]), H0.out.trans HC.out⟩

set_option maxHeartbeats 400000 in
theorem fac26a_false (d : Own) (ks : F) (kA : Option Addr) (kn kc : Nat) (w : World) (hv : Var0 w) (hN : IsN w d ks kA kn kc) (hkind : d.kind = 26) (his : isT d (F.len ks) d.kind pV (0) = false) :
    Calls Try.prog 41 #[nodeV d kA kn kc] w (fun e w' => e = .returned (.bool (facT d ks)) ∧ Chg NoB w w') := by
  have hlen := hN.kids.len
  have hw0 : Chg NoB w (w.alloc (.cells #[.int .i64 d.kind, .string d.nm, .int .u32 d.val, .bool d.mark, .slice kA kn kc] 28)) := (Chg.refl _ _).alloc _
  have h1 := is_c d hN.ok kA kn kc (Nat.le_trans hN.le hN.most) d.kind pV (by decide) (0) (w.alloc (.cells #[.int .i64 d.kind, .string d.nm, .int .u32 d.val, .bool d.mark, .slice kA kn kc] 28)) (hv.chg hw0)
  rw [hlen, his, ← hlen] at h1
  unfold nodeV pV at h1
  have H1 := Go.Lib.hid h1
  have t21 : (d.kind == 21) = false := by simp [hkind]
  have t25 : (d.kind == 25) = false := by simp [hkind]
  have t26 : (d.kind == 26) = true := by simp [hkind]
  have Heq : Hid (facT d ks = false) := Go.Lib.hid (by unfold facT facM; simp [t21, t25, t26, his])
  have H0 := Go.Lib.hid hw0
  clear h1 his hkind hlen hw0
  unfold nodeV
  go_enter Try.func41, Try.ntmps41
  go_wp2_with fail
  refine H1.out.mono ?_
  rintro e w1 ⟨rfl, hc⟩
  obtain ⟨hb0, hb1, hb2, hb3, hb4⟩ := box5 hc
  have HC := Go.Lib.hid hc
  clear hc
  go_wp2_with fail
  go_ret
  exact ⟨congrArg (fun b => Ending.returned (.bool b)) Heq.out.symm, H0.out.trans HC.out⟩
set_option maxHeartbeats 400000 in
theorem fac26a_true (d : Own) (ks : F) (kA : Option Addr) (kn kc : Nat) (w : World) (hv : Var0 w) (hN : IsN w d ks kA kn kc) (hkind : d.kind = 26) (hv256 : d.val < 256) (his : isT d (F.len ks) d.kind pV (0) = true) :
    Calls Try.prog 41 #[nodeV d kA kn kc] w (fun e w' => e = .returned (.bool (facT d ks)) ∧ Chg NoB w w') := by
  have hlen := hN.kids.len
  have hw0 : Chg NoB w (w.alloc (.cells #[.int .i64 d.kind, .string d.nm, .int .u32 d.val, .bool d.mark, .slice kA kn kc] 28)) := (Chg.refl _ _).alloc _
  have h1 := is_c d hN.ok kA kn kc (Nat.le_trans hN.le hN.most) d.kind pV (by decide) (0) (w.alloc (.cells #[.int .i64 d.kind, .string d.nm, .int .u32 d.val, .bool d.mark, .slice kA kn kc] 28)) (hv.chg hw0)
  rw [hlen, his, ← hlen] at h1
  unfold nodeV pV at h1
  have H1 := Go.Lib.hid h1
  have t21 : (d.kind == 21) = false := by simp [hkind]
  have t25 : (d.kind == 25) = false := by simp [hkind]
  have t26 : (d.kind == 26) = true := by simp [hkind]
  have Heq := Go.Lib.hid (show facT d ks = true by unfold facT facM; simp [t21, t25, t26, his, hv256])
  have Hv : Hid (∀ W, Chg NoB (w.alloc (.cells #[.int .i64 d.kind, .string d.nm, .int .u32 d.val, .bool d.mark, .slice kA kn kc] 28)) W → Var0 W) := Go.Lib.hid fun W hW => hv.chg (hw0.trans hW)
  have H0 := Go.Lib.hid hw0
  clear h1 his hkind hlen hw0
  unfold nodeV
  go_enter Try.func41, Try.ntmps41
  go_wp2_with fail
  refine H1.out.mono ?_
  rintro e w1 ⟨rfl, hc⟩
  obtain ⟨hb0, hb1, hb2, hb3, hb4⟩ := box5 hc
  have HC := Go.Lib.hid hc
  clear hc
  go_wp2_with fail
  all_goals
    go_ret
    exact ⟨congrArg (fun b => Ending.returned (.bool b)) (by rw [Heq.out]; try simp [*]), H0.out.trans HC.out⟩

set_option maxHeartbeats 400000 in
theorem fac26b_true (d : Own) (ks : F) (kA : Option Addr) (kn kc : Nat) (w : World) (hv : Var0 w) (hN : IsN w d ks kA kn kc) (hkind : d.kind = 26) (hv256 : ¬ d.val < 256) (his : isT d (F.len ks) d.kind pV (0) = true) :
    Calls Try.prog 41 #[nodeV d kA kn kc] w (fun e w' => e = .returned (.bool (facT d ks)) ∧ Chg NoB w w') := by
  have hlen := hN.kids.len
  have hw0 : Chg NoB w (w.alloc (.cells #[.int .i64 d.kind, .string d.nm, .int .u32 d.val, .bool d.mark, .slice kA kn kc] 28)) := (Chg.refl _ _).alloc _
  have h1 := is_c d hN.ok kA kn kc (Nat.le_trans hN.le hN.most) d.kind pV (by decide) (0) (w.alloc (.cells #[.int .i64 d.kind, .string d.nm, .int .u32 d.val, .bool d.mark, .slice kA kn kc] 28)) (hv.chg hw0)
  rw [hlen, his, ← hlen] at h1
  unfold nodeV pV at h1
  have H1 := Go.Lib.hid h1
  have t21 : (d.kind == 21) = false := by simp [hkind]
  have t25 : (d.kind == 25) = false := by simp [hkind]
  have t26 : (d.kind == 26) = true := by simp [hkind]
  have Heq := Go.Lib.hid (show facT d ks = false by unfold facT facM; simp [t21, t25, t26, his, hv256])
  have Hv : Hid (∀ W, Chg NoB (w.alloc (.cells #[.int .i64 d.kind, .string d.nm, .int .u32 d.val, .bool d.mark, .slice kA kn kc] 28)) W → Var0 W) := Go.Lib.hid fun W hW => hv.chg (hw0.trans hW)
  have H0 := Go.Lib.hid hw0
  clear h1 his hkind hlen hw0
  unfold nodeV
  go_enter Try.func41, Try.ntmps41
  go_wp2_with fail
  refine H1.out.mono ?_
  rintro e w1 ⟨rfl, hc⟩
  obtain ⟨hb0, hb1, hb2, hb3, hb4⟩ := box5 hc
  have HC := Go.Lib.hid hc
  clear hc
  go_wp2_with fail
  all_goals
    go_ret
    exact ⟨congrArg (fun b => Ending.returned (.bool b)) (by rw [Heq.out]; try simp [*]), H0.out.trans HC.out⟩

set_option maxHeartbeats 400000 in
theorem fac27_false (d : Own) (ks : F) (kA : Option Addr) (kn kc : Nat) (w : World) (hv : Var0 w) (hN : IsN w d ks kA kn kc) (hkind : d.kind = 27) (his : bareT d (F.len ks) pN = false) :
    Calls Try.prog 41 #[nodeV d kA kn kc] w (fun e w' => e = .returned (.bool (facT d ks)) ∧ Chg NoB w w') := by
  have hlen := hN.kids.len
  have hw0 : Chg NoB w (w.alloc (.cells #[.int .i64 d.kind, .string d.nm, .int .u32 d.val, .bool d.mark, .slice kA kn kc] 28)) := (Chg.refl _ _).alloc _
  have h1 := bare_c d kA kn kc (Nat.le_trans hN.le hN.most) pN (by decide) (w.alloc (.cells #[.int .i64 d.kind, .string d.nm, .int .u32 d.val, .bool d.mark, .slice kA kn kc] 28)) (hv.chg hw0)
  rw [hlen, his, ← hlen] at h1
  unfold nodeV pN at h1
  have H1 := Go.Lib.hid h1
  have t21 : (d.kind == 21) = false := by simp [hkind]
  have t25 : (d.kind == 25) = false := by simp [hkind]
  have t26 : (d.kind == 26) = false := by simp [hkind]
  have t27 : (d.kind == 27) = true := by simp [hkind]
  have Heq : Hid (facT d ks = false) := Go.Lib.hid (by unfold facT facM; simp [t21, t25, t26, t27, his])
  have H0 := Go.Lib.hid hw0
  clear h1 his hkind hlen hw0
  unfold nodeV
  go_enter Try.func41, Try.ntmps41
  go_wp2_with fail
  refine H1.out.mono ?_
  rintro e w1 ⟨rfl, hc⟩
  obtain ⟨hb0, hb1, hb2, hb3, hb4⟩ := box5 hc
  have HC := Go.Lib.hid hc
  clear hc
  go_wp2_with fail
  go_ret
  exact ⟨congrArg (fun b => Ending.returned (.bool b)) Heq.out.symm, H0.out.trans HC.out⟩
set_option maxHeartbeats 400000 in
theorem fac27_true (d : Own) (ks : F) (kA : Option Addr) (kn kc : Nat) (w : World) (hv : Var0 w) (hN : IsN w d ks kA kn kc) (hkind : d.kind = 27)  (his : bareT d (F.len ks) pN = true) :
    Calls Try.prog 41 #[nodeV d kA kn kc] w (fun e w' => e = .returned (.bool (facT d ks)) ∧ Chg NoB w w') := by
  have hlen := hN.kids.len
  have hw0 : Chg NoB w (w.alloc (.cells #[.int .i64 d.kind, .string d.nm, .int .u32 d.val, .bool d.mark, .slice kA kn kc] 28)) := (Chg.refl _ _).alloc _
  have h1 := bare_c d kA kn kc (Nat.le_trans hN.le hN.most) pN (by decide) (w.alloc (.cells #[.int .i64 d.kind, .string d.nm, .int .u32 d.val, .bool d.mark, .slice kA kn kc] 28)) (hv.chg hw0)
  rw [hlen, his, ← hlen] at h1
  unfold nodeV pN at h1
  have H1 := Go.Lib.hid h1
  have t21 : (d.kind == 21) = false := by simp [hkind]
  have t25 : (d.kind == 25) = false := by simp [hkind]
  have t26 : (d.kind == 26) = false := by simp [hkind]
  have t27 : (d.kind == 27) = true := by simp [hkind]
  have Heq := Go.Lib.hid (show facT d ks = textT d.nm by unfold facT facM; simp [t21, t25, t26, t27, his])
  have Hv : Hid (∀ W, Chg NoB (w.alloc (.cells #[.int .i64 d.kind, .string d.nm, .int .u32 d.val, .bool d.mark, .slice kA kn kc] 28)) W → Var0 W) := Go.Lib.hid fun W hW => hv.chg (hw0.trans hW)
  have HT : Hid (∀ W, Chg NoB (w.alloc (.cells #[.int .i64 d.kind, .string d.nm, .int .u32 d.val, .bool d.mark, .slice kA kn kc] 28)) W → Calls Try.prog 55 #[.string d.nm] W fun e w' => e = .returned (.bool (textT d.nm)) ∧ Chg NoB W w') := Go.Lib.hid fun W hW => mayText_c d.nm hN.ok.2.1 W
  have H0 := Go.Lib.hid hw0
  clear h1 his hkind hlen hw0
  unfold nodeV
  go_enter Try.func41, Try.ntmps41
  go_wp2_with fail
  refine H1.out.mono ?_
  rintro e w1 ⟨rfl, hc⟩
  obtain ⟨hb0, hb1, hb2, hb3, hb4⟩ := box5 hc
  have HC := Go.Lib.hid hc
  clear hc
  go_wp2_with (first
    | (go_at_call 55
       refine (HT.out _ HC.out).mono ?_
       rintro e w1 ⟨rfl, hc⟩
       have HC := Go.Lib.hid (HC.out.trans hc)
       clear hc hb0 hb1 hb2 hb3 hb4
       obtain ⟨hb0, hb1, hb2, hb3, hb4⟩ := box5 HC.out))
  all_goals
    go_ret
    exact ⟨congrArg (fun b => Ending.returned (.bool b)) (by rw [Heq.out]; try simp [*]), H0.out.trans HC.out⟩

set_option maxHeartbeats 400000 in
theorem fac28_false (d : Own) (ks : F) (kA : Option Addr) (kn kc : Nat) (w : World) (hv : Var0 w) (hN : IsN w d ks kA kn kc) (hkind : d.kind = 28) (his : isT d (F.len ks) d.kind p0 (0) = false) :
    Calls Try.prog 41 #[nodeV d kA kn kc] w (fun e w' => e = .returned (.bool (facT d ks)) ∧ Chg NoB w w') := by
  have hlen := hN.kids.len
  have hw0 : Chg NoB w (w.alloc (.cells #[.int .i64 d.kind, .string d.nm, .int .u32 d.val, .bool d.mark, .slice kA kn kc] 28)) := (Chg.refl _ _).alloc _
  have h1 := is_c d hN.ok kA kn kc (Nat.le_trans hN.le hN.most) d.kind p0 (by decide) (0) (w.alloc (.cells #[.int .i64 d.kind, .string d.nm, .int .u32 d.val, .bool d.mark, .slice kA kn kc] 28)) (hv.chg hw0)
  rw [hlen, his, ← hlen] at h1
  unfold nodeV p0 at h1
  have H1 := Go.Lib.hid h1
  have t21 : (d.kind == 21) = false := by simp [hkind]
  have t25 : (d.kind == 25) = false := by simp [hkind]
  have t26 : (d.kind == 26) = false := by simp [hkind]
  have t27 : (d.kind == 27) = false := by simp [hkind]
  have t28 : (d.kind == 28) = true := by simp [hkind]
  have Heq : Hid (facT d ks = false) := Go.Lib.hid (by unfold facT facM; simp [t21, t25, t26, t27, t28, his])
  have H0 := Go.Lib.hid hw0
  clear h1 his hkind hlen hw0
  unfold nodeV
  go_enter Try.func41, Try.ntmps41
  go_wp2_with fail
  refine H1.out.mono ?_
  rintro e w1 ⟨rfl, hc⟩
  obtain ⟨hb0, hb1, hb2, hb3, hb4⟩ := box5 hc
  have HC := Go.Lib.hid hc
  clear hc
  go_wp2_with fail
  go_ret
  exact ⟨congrArg (fun b => Ending.returned (.bool b)) Heq.out.symm, H0.out.trans HC.out⟩
set_option maxHeartbeats 400000 in
theorem fac28_true (d : Own) (ks : F) (kA : Option Addr) (kn kc : Nat) (w : World) (hv : Var0 w) (hN : IsN w d ks kA kn kc) (hkind : d.kind = 28)  (his : isT d (F.len ks) d.kind p0 (0) = true) :
    Calls Try.prog 41 #[nodeV d kA kn kc] w (fun e w' => e = .returned (.bool (facT d ks)) ∧ Chg NoB w w') := by
  have hlen := hN.kids.len
  have hw0 : Chg NoB w (w.alloc (.cells #[.int .i64 d.kind, .string d.nm, .int .u32 d.val, .bool d.mark, .slice kA kn kc] 28)) := (Chg.refl _ _).alloc _
  have h1 := is_c d hN.ok kA kn kc (Nat.le_trans hN.le hN.most) d.kind p0 (by decide) (0) (w.alloc (.cells #[.int .i64 d.kind, .string d.nm, .int .u32 d.val, .bool d.mark, .slice kA kn kc] 28)) (hv.chg hw0)
  rw [hlen, his, ← hlen] at h1
  unfold nodeV p0 at h1
  have H1 := Go.Lib.hid h1
  have t21 : (d.kind == 21) = false := by simp [hkind]
  have t25 : (d.kind == 25) = false := by simp [hkind]
  have t26 : (d.kind == 26) = false := by simp [hkind]
  have t27 : (d.kind == 27) = false := by simp [hkind]
  have t28 : (d.kind == 28) = true := by simp [hkind]
  have Heq := Go.Lib.hid (show facT d ks = true by unfold facT facM; simp [t21, t25, t26, t27, t28, his])
  have Hv : Hid (∀ W, Chg NoB (w.alloc (.cells #[.int .i64 d.kind, .string d.nm, .int .u32 d.val, .bool d.mark, .slice kA kn kc] 28)) W → Var0 W) := Go.Lib.hid fun W hW => hv.chg (hw0.trans hW)
  have H0 := Go.Lib.hid hw0
  clear h1 his hkind hlen hw0
  unfold nodeV
  go_enter Try.func41, Try.ntmps41
  go_wp2_with fail
  refine H1.out.mono ?_
  rintro e w1 ⟨rfl, hc⟩
  obtain ⟨hb0, hb1, hb2, hb3, hb4⟩ := box5 hc
  have HC := Go.Lib.hid hc
  clear hc
  go_wp2_with fail
  all_goals
    go_ret
    exact ⟨congrArg (fun b => Ending.returned (.bool b)) (by rw [Heq.out]; try simp [*]), H0.out.trans HC.out⟩

set_option maxHeartbeats 400000 in
theorem fac29_false (d : Own) (ks : F) (kA : Option Addr) (kn kc : Nat) (w : World) (hv : Var0 w) (hN : IsN w d ks kA kn kc) (hkind : d.kind = 29) (his : isT d (F.len ks) d.kind p0 (0) = false) :
    Calls Try.prog 41 #[nodeV d kA kn kc] w (fun e w' => e = .returned (.bool (facT d ks)) ∧ Chg NoB w w') := by
  have hlen := hN.kids.len
  have hw0 : Chg NoB w (w.alloc (.cells #[.int .i64 d.kind, .string d.nm, .int .u32 d.val, .bool d.mark, .slice kA kn kc] 28)) := (Chg.refl _ _).alloc _
  have h1 := is_c d hN.ok kA kn kc (Nat.le_trans hN.le hN.most) d.kind p0 (by decide) (0) (w.alloc (.cells #[.int .i64 d.kind, .string d.nm, .int .u32 d.val, .bool d.mark, .slice kA kn kc] 28)) (hv.chg hw0)
  rw [hlen, his, ← hlen] at h1
  unfold nodeV p0 at h1
  have H1 := Go.Lib.hid h1
  have t21 : (d.kind == 21) = false := by simp [hkind]
  have t25 : (d.kind == 25) = false := by simp [hkind]
  have t26 : (d.kind == 26) = false := by simp [hkind]
  have t27 : (d.kind == 27) = false := by simp [hkind]
  have t28 : (d.kind == 28) = false := by simp [hkind]
  have t29 : (d.kind == 29) = true := by simp [hkind]
  have Heq : Hid (facT d ks = false) := Go.Lib.hid (by unfold facT facM; simp [t21, t25, t26, t27, t28, t29, his])
  have H0 := Go.Lib.hid hw0
  clear h1 his hkind hlen hw0
  unfold nodeV
  go_enter Try.func41, Try.ntmps41
  go_wp2_with fail
  refine H1.out.mono ?_
  rintro e w1 ⟨rfl, hc⟩
  obtain ⟨hb0, hb1, hb2, hb3, hb4⟩ := box5 hc
  have HC := Go.Lib.hid hc
  clear hc
  go_wp2_with fail
  go_ret
  exact ⟨congrArg (fun b => Ending.returned (.bool b)) Heq.out.symm, H0.out.trans HC.out⟩
set_option maxHeartbeats 400000 in
theorem fac29_true (d : Own) (ks : F) (kA : Option Addr) (kn kc : Nat) (w : World) (hv : Var0 w) (hN : IsN w d ks kA kn kc) (hkind : d.kind = 29)  (his : isT d (F.len ks) d.kind p0 (0) = true) :
    Calls Try.prog 41 #[nodeV d kA kn kc] w (fun e w' => e = .returned (.bool (facT d ks)) ∧ Chg NoB w w') := by
  have hlen := hN.kids.len
  have hw0 : Chg NoB w (w.alloc (.cells #[.int .i64 d.kind, .string d.nm, .int .u32 d.val, .bool d.mark, .slice kA kn kc] 28)) := (Chg.refl _ _).alloc _
  have h1 := is_c d hN.ok kA kn kc (Nat.le_trans hN.le hN.most) d.kind p0 (by decide) (0) (w.alloc (.cells #[.int .i64 d.kind, .string d.nm, .int .u32 d.val, .bool d.mark, .slice kA kn kc] 28)) (hv.chg hw0)
  rw [hlen, his, ← hlen] at h1
  unfold nodeV p0 at h1
  have H1 := Go.Lib.hid h1
  have t21 : (d.kind == 21) = false := by simp [hkind]
  have t25 : (d.kind == 25) = false := by simp [hkind]
  have t26 : (d.kind == 26) = false := by simp [hkind]
  have t27 : (d.kind == 27) = false := by simp [hkind]
  have t28 : (d.kind == 28) = false := by simp [hkind]
  have t29 : (d.kind == 29) = true := by simp [hkind]
  have Heq := Go.Lib.hid (show facT d ks = true by unfold facT facM; simp [t21, t25, t26, t27, t28, t29, his])
  have Hv : Hid (∀ W, Chg NoB (w.alloc (.cells #[.int .i64 d.kind, .string d.nm, .int .u32 d.val, .bool d.mark, .slice kA kn kc] 28)) W → Var0 W) := Go.Lib.hid fun W hW => hv.chg (hw0.trans hW)
  have H0 := Go.Lib.hid hw0
  clear h1 his hkind hlen hw0
  unfold nodeV
  go_enter Try.func41, Try.ntmps41
  go_wp2_with fail
  refine H1.out.mono ?_
  rintro e w1 ⟨rfl, hc⟩
  obtain ⟨hb0, hb1, hb2, hb3, hb4⟩ := box5 hc
  have HC := Go.Lib.hid hc
  clear hc
  go_wp2_with fail
  all_goals
    go_ret
    exact ⟨congrArg (fun b => Ending.returned (.bool b)) (by rw [Heq.out]; try simp [*]), H0.out.trans HC.out⟩

set_option maxHeartbeats 400000 in
theorem fac30_false (d : Own) (ks : F) (kA : Option Addr) (kn kc : Nat) (w : World) (hv : Var0 w) (hN : IsN w d ks kA kn kc) (hkind : d.kind = 30) (his : isT d (F.len ks) d.kind p0 (0) = false) :
    Calls Try.prog 41 #[nodeV d kA kn kc] w (fun e w' => e = .returned (.bool (facT d ks)) ∧ Chg NoB w w') := by
  have hlen := hN.kids.len
  have hw0 : Chg NoB w (w.alloc (.cells #[.int .i64 d.kind, .string d.nm, .int .u32 d.val, .bool d.mark, .slice kA kn kc] 28)) := (Chg.refl _ _).alloc _
  have h1 := is_c d hN.ok kA kn kc (Nat.le_trans hN.le hN.most) d.kind p0 (by decide) (0) (w.alloc (.cells #[.int .i64 d.kind, .string d.nm, .int .u32 d.val, .bool d.mark, .slice kA kn kc] 28)) (hv.chg hw0)
  rw [hlen, his, ← hlen] at h1
  unfold nodeV p0 at h1
  have H1 := Go.Lib.hid h1
  have t21 : (d.kind == 21) = false := by simp [hkind]
  have t25 : (d.kind == 25) = false := by simp [hkind]
  have t26 : (d.kind == 26) = false := by simp [hkind]
  have t27 : (d.kind == 27) = false := by simp [hkind]
  have t28 : (d.kind == 28) = false := by simp [hkind]
  have t29 : (d.kind == 29) = false := by simp [hkind]
  have t30 : (d.kind == 30) = true := by simp [hkind]
  have Heq : Hid (facT d ks = false) := Go.Lib.hid (by unfold facT facM; simp [t21, t25, t26, t27, t28, t29, t30, his])
  have H0 := Go.Lib.hid hw0
  clear h1 his hkind hlen hw0
  unfold nodeV
  go_enter Try.func41, Try.ntmps41
  go_wp2_with fail
  refine H1.out.mono ?_
  rintro e w1 ⟨rfl, hc⟩
  obtain ⟨hb0, hb1, hb2, hb3, hb4⟩ := box5 hc
  have HC := Go.Lib.hid hc
  clear hc
  go_wp2_with fail
  go_ret
  exact ⟨congrArg (fun b => Ending.returned (.bool b)) Heq.out.symm, H0.out.trans HC.out⟩
set_option maxHeartbeats 400000 in
theorem fac30_true (d : Own) (ks : F) (kA : Option Addr) (kn kc : Nat) (w : World) (hv : Var0 w) (hN : IsN w d ks kA kn kc) (hkind : d.kind = 30)  (his : isT d (F.len ks) d.kind p0 (0) = true) :
    Calls Try.prog 41 #[nodeV d kA kn kc] w (fun e w' => e = .returned (.bool (facT d ks)) ∧ Chg NoB w w') := by
  have hlen := hN.kids.len
  have hw0 : Chg NoB w (w.alloc (.cells #[.int .i64 d.kind, .string d.nm, .int .u32 d.val, .bool d.mark, .slice kA kn kc] 28)) := (Chg.refl _ _).alloc _
  have h1 := is_c d hN.ok kA kn kc (Nat.le_trans hN.le hN.most) d.kind p0 (by decide) (0) (w.alloc (.cells #[.int .i64 d.kind, .string d.nm, .int .u32 d.val, .bool d.mark, .slice kA kn kc] 28)) (hv.chg hw0)
  rw [hlen, his, ← hlen] at h1
  unfold nodeV p0 at h1
  have H1 := Go.Lib.hid h1
  have t21 : (d.kind == 21) = false := by simp [hkind]
  have t25 : (d.kind == 25) = false := by simp [hkind]
  have t26 : (d.kind == 26) = false := by simp [hkind]
  have t27 : (d.kind == 27) = false := by simp [hkind]
  have t28 : (d.kind == 28) = false := by simp [hkind]
  have t29 : (d.kind == 29) = false := by simp [hkind]
  have t30 : (d.kind == 30) = true := by simp [hkind]
  have Heq := Go.Lib.hid (show facT d ks = true by unfold facT facM; simp [t21, t25, t26, t27, t28, t29, t30, his])
  have Hv : Hid (∀ W, Chg NoB (w.alloc (.cells #[.int .i64 d.kind, .string d.nm, .int .u32 d.val, .bool d.mark, .slice kA kn kc] 28)) W → Var0 W) := Go.Lib.hid fun W hW => hv.chg (hw0.trans hW)
  have H0 := Go.Lib.hid hw0
  clear h1 his hkind hlen hw0
  unfold nodeV
  go_enter Try.func41, Try.ntmps41
  go_wp2_with fail
  refine H1.out.mono ?_
  rintro e w1 ⟨rfl, hc⟩
  obtain ⟨hb0, hb1, hb2, hb3, hb4⟩ := box5 hc
  have HC := Go.Lib.hid hc
  clear hc
  go_wp2_with fail
  all_goals
    go_ret
    exact ⟨congrArg (fun b => Ending.returned (.bool b)) (by rw [Heq.out]; try simp [*]), H0.out.trans HC.out⟩

set_option maxHeartbeats 400000 in
theorem fac31_false (d : Own) (ks : F) (kA : Option Addr) (kn kc : Nat) (w : World) (hv : Var0 w) (hN : IsN w d ks kA kn kc) (hkind : d.kind = 31) (his : isT d (F.len ks) d.kind pK (-1) = false) :
    Calls Try.prog 41 #[nodeV d kA kn kc] w (fun e w' => e = .returned (.bool (facT d ks)) ∧ Chg NoB w w') := by
  have hlen := hN.kids.len
  have hw0 : Chg NoB w (w.alloc (.cells #[.int .i64 d.kind, .string d.nm, .int .u32 d.val, .bool d.mark, .slice kA kn kc] 28)) := (Chg.refl _ _).alloc _
  have h1 := is_c d hN.ok kA kn kc (Nat.le_trans hN.le hN.most) d.kind pK (by decide) (-1) (w.alloc (.cells #[.int .i64 d.kind, .string d.nm, .int .u32 d.val, .bool d.mark, .slice kA kn kc] 28)) (hv.chg hw0)
  rw [hlen, his, ← hlen] at h1
  unfold nodeV pK at h1
  have H1 := Go.Lib.hid h1
  have t21 : (d.kind == 21) = false := by simp [hkind]
  have t25 : (d.kind == 25) = false := by simp [hkind]
  have t26 : (d.kind == 26) = false := by simp [hkind]
  have t27 : (d.kind == 27) = false := by simp [hkind]
  have t28 : (d.kind == 28) = false := by simp [hkind]
  have t29 : (d.kind == 29) = false := by simp [hkind]
  have t30 : (d.kind == 30) = false := by simp [hkind]
  have t31 : (d.kind == 31) = true := by simp [hkind]
  have Heq : Hid (facT d ks = false) := Go.Lib.hid (by unfold facT facM; simp [t21, t25, t26, t27, t28, t29, t30, t31, his])
  have H0 := Go.Lib.hid hw0
  clear h1 his hkind hlen hw0
  unfold nodeV
  go_enter Try.func41, Try.ntmps41
  go_wp2_with fail
  refine H1.out.mono ?_
  rintro e w1 ⟨rfl, hc⟩
  obtain ⟨hb0, hb1, hb2, hb3, hb4⟩ := box5 hc
  have HC := Go.Lib.hid hc
  clear hc
  go_wp2_with fail
  go_ret
  exact ⟨congrArg (fun b => Ending.returned (.bool b)) Heq.out.symm, H0.out.trans HC.out⟩
set_option maxHeartbeats 400000 in
theorem fac31_true (d : Own) (ks : F) (kA : Option Addr) (kn kc : Nat) (w : World) (hv : Var0 w) (hN : IsN w d ks kA kn kc) (hkind : d.kind = 31) (hall : F.All (MayC 28 expT) ks) (his : isT d (F.len ks) d.kind pK (-1) = true) :
    Calls Try.prog 41 #[nodeV d kA kn kc] w (fun e w' => e = .returned (.bool (facT d ks)) ∧ Chg NoB w w') := by
  have hlen := hN.kids.len
  have hw0 : Chg NoB w (w.alloc (.cells #[.int .i64 d.kind, .string d.nm, .int .u32 d.val, .bool d.mark, .slice kA kn kc] 28)) := (Chg.refl _ _).alloc _
  have h1 := is_c d hN.ok kA kn kc (Nat.le_trans hN.le hN.most) d.kind pK (by decide) (-1) (w.alloc (.cells #[.int .i64 d.kind, .string d.nm, .int .u32 d.val, .bool d.mark, .slice kA kn kc] 28)) (hv.chg hw0)
  rw [hlen, his, ← hlen] at h1
  unfold nodeV pK at h1
  have H1 := Go.Lib.hid h1
  have t21 : (d.kind == 21) = false := by simp [hkind]
  have t25 : (d.kind == 25) = false := by simp [hkind]
  have t26 : (d.kind == 26) = false := by simp [hkind]
  have t27 : (d.kind == 27) = false := by simp [hkind]
  have t28 : (d.kind == 28) = false := by simp [hkind]
  have t29 : (d.kind == 29) = false := by simp [hkind]
  have t30 : (d.kind == 30) = false := by simp [hkind]
  have t31 : (d.kind == 31) = true := by simp [hkind]
  have Heq := Go.Lib.hid (show facT d ks = F.all expT ks by unfold facT facM; simp [t21, t25, t26, t27, t28, t29, t30, t31, his, F.all_exp])
  have Hv : Hid (∀ W, Chg NoB (w.alloc (.cells #[.int .i64 d.kind, .string d.nm, .int .u32 d.val, .bool d.mark, .slice kA kn kc] 28)) W → Var0 W) := Go.Lib.hid fun W hW => hv.chg (hw0.trans hW)
  have HALLN : Hid (kn ≤ maxLen) := Go.Lib.hid (Nat.le_trans hN.le hN.most)
  have HALLL : Hid (∀ W, Chg NoB (w.alloc (.cells #[.int .i64 d.kind, .string d.nm, .int .u32 d.val, .bool d.mark, .slice kA kn kc] 28)) W → IsL W kA kn ks) := Go.Lib.hid fun W hW => hN.kids.chg (hw0.trans hW)
  have HALL : Hid (∀ W, Chg NoB (w.alloc (.cells #[.int .i64 d.kind, .string d.nm, .int .u32 d.val, .bool d.mark, .slice kA kn kc] 28)) W → Calls Try.prog 44 #[.slice kA (kn) (kc), .func (.func 28) #[] #[]] W fun e w' => e = .returned (.bool (F.all expT ks)) ∧ Chg NoB W w') := Go.Lib.hid fun W hW => all_c _ cf_MayExpr expT ks hall _ _ _ HALLN.out W (Hv.out W hW) (HALLL.out W hW)
  have H0 := Go.Lib.hid hw0
  clear h1 his hkind hlen hw0
  unfold nodeV
  go_enter Try.func41, Try.ntmps41
  go_wp2_with fail
  refine H1.out.mono ?_
  rintro e w1 ⟨rfl, hc⟩
  obtain ⟨hb0, hb1, hb2, hb3, hb4⟩ := box5 hc
  have HC := Go.Lib.hid hc
  clear hc
  go_wp2_with (first
    | (go_at_call 44
       refine (HALL.out _ HC.out).mono ?_
       rintro e w1 ⟨rfl, hc⟩
       have HC := Go.Lib.hid (HC.out.trans hc)
       clear hc hb0 hb1 hb2 hb3 hb4
       obtain ⟨hb0, hb1, hb2, hb3, hb4⟩ := box5 HC.out))
  all_goals
    go_ret
    exact ⟨congrArg (fun b => Ending.returned (.bool b)) (by rw [Heq.out]; try simp [*]), H0.out.trans HC.out⟩

set_option maxHeartbeats 400000 in
theorem fac32_false (d : Own) (ks : F) (kA : Option Addr) (kn kc : Nat) (w : World) (hv : Var0 w) (hN : IsN w d ks kA kn kc) (hkind : d.kind = 32) (his : isT d (F.len ks) d.kind pK (1) = false) :
    Calls Try.prog 41 #[nodeV d kA kn kc] w (fun e w' => e = .returned (.bool (facT d ks)) ∧ Chg NoB w w') := by
  have hlen := hN.kids.len
  have hw0 : Chg NoB w (w.alloc (.cells #[.int .i64 d.kind, .string d.nm, .int .u32 d.val, .bool d.mark, .slice kA kn kc] 28)) := (Chg.refl _ _).alloc _
  have h1 := is_c d hN.ok kA kn kc (Nat.le_trans hN.le hN.most) d.kind pK (by decide) (1) (w.alloc (.cells #[.int .i64 d.kind, .string d.nm, .int .u32 d.val, .bool d.mark, .slice kA kn kc] 28)) (hv.chg hw0)
  rw [hlen, his, ← hlen] at h1
  unfold nodeV pK at h1
  have H1 := Go.Lib.hid h1
  have t21 : (d.kind == 21) = false := by simp [hkind]
  have t25 : (d.kind == 25) = false := by simp [hkind]
  have t26 : (d.kind == 26) = false := by simp [hkind]
  have t27 : (d.kind == 27) = false := by simp [hkind]
  have t28 : (d.kind == 28) = false := by simp [hkind]
  have t29 : (d.kind == 29) = false := by simp [hkind]
  have t30 : (d.kind == 30) = false := by simp [hkind]
  have t31 : (d.kind == 31) = false := by simp [hkind]
  have t32 : (d.kind == 32) = true := by simp [hkind]
  have Heq : Hid (facT d ks = false) := Go.Lib.hid (by unfold facT facM; simp [t21, t25, t26, t27, t28, t29, t30, t31, t32, his])
  have H0 := Go.Lib.hid hw0
  clear h1 his hkind hlen hw0
  unfold nodeV
  go_enter Try.func41, Try.ntmps41
  go_wp2_with fail
  refine H1.out.mono ?_
  rintro e w1 ⟨rfl, hc⟩
  obtain ⟨hb0, hb1, hb2, hb3, hb4⟩ := box5 hc
  have HC := Go.Lib.hid hc
  clear hc
  go_wp2_with fail
  go_ret
  exact ⟨congrArg (fun b => Ending.returned (.bool b)) Heq.out.symm, H0.out.trans HC.out⟩
set_option maxHeartbeats 400000 in
theorem fac32_true (d : Own) (d0 : Own) (k0 r : F) (kA : Option Addr) (kn kc : Nat) (w : World) (hv : Var0 w) (hN : IsN w d (.cons d0 k0 r) kA kn kc) (hkind : d.kind = 32) (he0 : Hid (MayC 28 expT d0 k0)) (his : isT d (F.len (.cons d0 k0 r)) d.kind pK (1) = true) :
    Calls Try.prog 41 #[nodeV d kA kn kc] w (fun e w' => e = .returned (.bool (facT d (.cons d0 k0 r))) ∧ Chg NoB w w') := by
  have hlen := hN.kids.len
  have hw0 : Chg NoB w (w.alloc (.cells #[.int .i64 d.kind, .string d.nm, .int .u32 d.val, .bool d.mark, .slice kA kn kc] 28)) := (Chg.refl _ _).alloc _
  have h1 := is_c d hN.ok kA kn kc (Nat.le_trans hN.le hN.most) d.kind pK (by decide) (1) (w.alloc (.cells #[.int .i64 d.kind, .string d.nm, .int .u32 d.val, .bool d.mark, .slice kA kn kc] 28)) (hv.chg hw0)
  rw [hlen, his, ← hlen] at h1
  unfold nodeV pK at h1
  have H1 := Go.Lib.hid h1
  have t21 : (d.kind == 21) = false := by simp [hkind]
  have t25 : (d.kind == 25) = false := by simp [hkind]
  have t26 : (d.kind == 26) = false := by simp [hkind]
  have t27 : (d.kind == 27) = false := by simp [hkind]
  have t28 : (d.kind == 28) = false := by simp [hkind]
  have t29 : (d.kind == 29) = false := by simp [hkind]
  have t30 : (d.kind == 30) = false := by simp [hkind]
  have t31 : (d.kind == 31) = false := by simp [hkind]
  have t32 : (d.kind == 32) = true := by simp [hkind]
  have Heq := Go.Lib.hid (show facT d (.cons d0 k0 r) = expT d0 k0 by unfold facT facM; simp only [t21, t25, t26, t27, t28, t29, t30, t31, t32, his, Bool.or_self, Bool.false_eq_true, if_false, if_true, Bool.true_and]; rfl)
  have Hv : Hid (∀ W, Chg NoB (w.alloc (.cells #[.int .i64 d.kind, .string d.nm, .int .u32 d.val, .bool d.mark, .slice kA kn kc] 28)) W → Var0 W) := Go.Lib.hid fun W hW => hv.chg (hw0.trans hW)
  have hkids := hN.kids
  obtain ⟨b0, o0, kA0, kn0, kc0, m0, hA0, rfl, ok0, le0, most0, e0, e1, e2, e3, e4, hk0, hr0⟩ := hkids
  subst hA0
  have HK0 : Hid (∀ W, Chg NoB (w.alloc (.cells #[.int .i64 d.kind, .string d.nm, .int .u32 d.val, .bool d.mark, .slice (some ⟨b0, o0, none⟩) (m0 + 1) kc] 28)) W → W.cell? ⟨b0, o0, none⟩ = some (Value.int .i64 d0.kind) ∧ W.cell? ⟨b0, o0 + 1, none⟩ = some (Value.string d0.nm) ∧ W.cell? ⟨b0, o0 + 2, none⟩ = some (Value.int .u32 d0.val) ∧ W.cell? ⟨b0, o0 + 3, none⟩ = some (Value.bool d0.mark) ∧ W.cell? ⟨b0, o0 + 4, none⟩ = some (Value.slice kA0 kn0 kc0)) := Go.Lib.hid fun W hW => by
    have hq := hw0.trans hW
    exact ⟨hq.cell e0 id, hq.cell e1 id, hq.cell e2 id, hq.cell e3 id, hq.cell e4 id⟩
  have HN0 : Hid (∀ W, Chg NoB (w.alloc (.cells #[.int .i64 d.kind, .string d.nm, .int .u32 d.val, .bool d.mark, .slice (some ⟨b0, o0, none⟩) (m0 + 1) kc] 28)) W → IsN W d0 k0 kA0 kn0 kc0) := Go.Lib.hid fun W hW => ⟨ok0, le0, most0, hk0.chg (hw0.trans hW)⟩
  clear e0 e1 e2 e3 e4
  have H0 := Go.Lib.hid hw0
  clear h1 his hkind hlen hw0
  unfold nodeV
  go_enter Try.func41, Try.ntmps41
  go_wp2_with fail
  refine H1.out.mono ?_
  rintro e w1 ⟨rfl, hc⟩
  obtain ⟨hb0, hb1, hb2, hb3, hb4⟩ := box5 hc
  have HC := Go.Lib.hid hc
  clear hc
  obtain ⟨e0, e1, e2, e3, e4⟩ := HK0.out _ HC.out
  go_wp2_with (first
    | (go_at_call 28
       refine (he0.out kA0 kn0 kc0 _ (Hv.out _ HC.out) (HN0.out _ HC.out)).mono ?_
       rintro e w1 ⟨rfl, hc⟩
       have HC := Go.Lib.hid (HC.out.trans hc)
       clear hc hb0 hb1 hb2 hb3 hb4
       obtain ⟨hb0, hb1, hb2, hb3, hb4⟩ := box5 HC.out
       clear e0 e1 e2 e3 e4
       obtain ⟨e0, e1, e2, e3, e4⟩ := HK0.out _ HC.out))
  all_goals
    go_ret
    exact ⟨congrArg (fun b => Ending.returned (.bool b)) (by rw [Heq.out]; try simp [*]), H0.out.trans HC.out⟩

set_option maxHeartbeats 400000 in
theorem fac33_false (d : Own) (ks : F) (kA : Option Addr) (kn kc : Nat) (w : World) (hv : Var0 w) (hN : IsN w d ks kA kn kc) (hkind : d.kind = 33) (his : isT d (F.len ks) d.kind pK (1) = false) :
    Calls Try.prog 41 #[nodeV d kA kn kc] w (fun e w' => e = .returned (.bool (facT d ks)) ∧ Chg NoB w w') := by
  have hlen := hN.kids.len
  have hw0 : Chg NoB w (w.alloc (.cells #[.int .i64 d.kind, .string d.nm, .int .u32 d.val, .bool d.mark, .slice kA kn kc] 28)) := (Chg.refl _ _).alloc _
  have h1 := is_c d hN.ok kA kn kc (Nat.le_trans hN.le hN.most) d.kind pK (by decide) (1) (w.alloc (.cells #[.int .i64 d.kind, .string d.nm, .int .u32 d.val, .bool d.mark, .slice kA kn kc] 28)) (hv.chg hw0)
  rw [hlen, his, ← hlen] at h1
  unfold nodeV pK at h1
  have H1 := Go.Lib.hid h1
  have t21 : (d.kind == 21) = false := by simp [hkind]
  have t25 : (d.kind == 25) = false := by simp [hkind]
  have t26 : (d.kind == 26) = false := by simp [hkind]
  have t27 : (d.kind == 27) = false := by simp [hkind]
  have t28 : (d.kind == 28) = false := by simp [hkind]
  have t29 : (d.kind == 29) = false := by simp [hkind]
  have t30 : (d.kind == 30) = false := by simp [hkind]
  have t31 : (d.kind == 31) = false := by simp [hkind]
  have t32 : (d.kind == 32) = false := by simp [hkind]
  have t33 : (d.kind == 33) = true := by simp [hkind]
  have Heq : Hid (facT d ks = false) := Go.Lib.hid (by unfold facT facM; simp [t21, t25, t26, t27, t28, t29, t30, t31, t32, t33, his])
  have H0 := Go.Lib.hid hw0
  clear h1 his hkind hlen hw0
  unfold nodeV
  go_enter Try.func41, Try.ntmps41
  go_wp2_with fail
  refine H1.out.mono ?_
  rintro e w1 ⟨rfl, hc⟩
  obtain ⟨hb0, hb1, hb2, hb3, hb4⟩ := box5 hc
  have HC := Go.Lib.hid hc
  clear hc
  go_wp2_with fail
  go_ret
  exact ⟨congrArg (fun b => Ending.returned (.bool b)) Heq.out.symm, H0.out.trans HC.out⟩
set_option maxHeartbeats 400000 in
theorem fac33_true (d : Own) (d0 : Own) (k0 r : F) (kA : Option Addr) (kn kc : Nat) (w : World) (hv : Var0 w) (hN : IsN w d (.cons d0 k0 r) kA kn kc) (hkind : d.kind = 33) (hf0 : Hid (MayC 41 facT d0 k0)) (his : isT d (F.len (.cons d0 k0 r)) d.kind pK (1) = true) :
    Calls Try.prog 41 #[nodeV d kA kn kc] w (fun e w' => e = .returned (.bool (facT d (.cons d0 k0 r))) ∧ Chg NoB w w') := by
  have hlen := hN.kids.len
  have hw0 : Chg NoB w (w.alloc (.cells #[.int .i64 d.kind, .string d.nm, .int .u32 d.val, .bool d.mark, .slice kA kn kc] 28)) := (Chg.refl _ _).alloc _
  have h1 := is_c d hN.ok kA kn kc (Nat.le_trans hN.le hN.most) d.kind pK (by decide) (1) (w.alloc (.cells #[.int .i64 d.kind, .string d.nm, .int .u32 d.val, .bool d.mark, .slice kA kn kc] 28)) (hv.chg hw0)
  rw [hlen, his, ← hlen] at h1
  unfold nodeV pK at h1
  have H1 := Go.Lib.hid h1
  have t21 : (d.kind == 21) = false := by simp [hkind]
  have t25 : (d.kind == 25) = false := by simp [hkind]
  have t26 : (d.kind == 26) = false := by simp [hkind]
  have t27 : (d.kind == 27) = false := by simp [hkind]
  have t28 : (d.kind == 28) = false := by simp [hkind]
  have t29 : (d.kind == 29) = false := by simp [hkind]
  have t30 : (d.kind == 30) = false := by simp [hkind]
  have t31 : (d.kind == 31) = false := by simp [hkind]
  have t32 : (d.kind == 32) = false := by simp [hkind]
  have t33 : (d.kind == 33) = true := by simp [hkind]
  have Heq := Go.Lib.hid (show facT d (.cons d0 k0 r) = facT d0 k0 by unfold facT facM; simp only [t21, t25, t26, t27, t28, t29, t30, t31, t32, t33, his, Bool.or_self, Bool.false_eq_true, if_false, if_true, Bool.true_and]; rfl)
  have Hv : Hid (∀ W, Chg NoB (w.alloc (.cells #[.int .i64 d.kind, .string d.nm, .int .u32 d.val, .bool d.mark, .slice kA kn kc] 28)) W → Var0 W) := Go.Lib.hid fun W hW => hv.chg (hw0.trans hW)
  have hkids := hN.kids
  obtain ⟨b0, o0, kA0, kn0, kc0, m0, hA0, rfl, ok0, le0, most0, e0, e1, e2, e3, e4, hk0, hr0⟩ := hkids
  subst hA0
  have HK0 : Hid (∀ W, Chg NoB (w.alloc (.cells #[.int .i64 d.kind, .string d.nm, .int .u32 d.val, .bool d.mark, .slice (some ⟨b0, o0, none⟩) (m0 + 1) kc] 28)) W → W.cell? ⟨b0, o0, none⟩ = some (Value.int .i64 d0.kind) ∧ W.cell? ⟨b0, o0 + 1, none⟩ = some (Value.string d0.nm) ∧ W.cell? ⟨b0, o0 + 2, none⟩ = some (Value.int .u32 d0.val) ∧ W.cell? ⟨b0, o0 + 3, none⟩ = some (Value.bool d0.mark) ∧ W.cell? ⟨b0, o0 + 4, none⟩ = some (Value.slice kA0 kn0 kc0)) := Go.Lib.hid fun W hW => by
    have hq := hw0.trans hW
    exact ⟨hq.cell e0 id, hq.cell e1 id, hq.cell e2 id, hq.cell e3 id, hq.cell e4 id⟩
  have HN0 : Hid (∀ W, Chg NoB (w.alloc (.cells #[.int .i64 d.kind, .string d.nm, .int .u32 d.val, .bool d.mark, .slice (some ⟨b0, o0, none⟩) (m0 + 1) kc] 28)) W → IsN W d0 k0 kA0 kn0 kc0) := Go.Lib.hid fun W hW => ⟨ok0, le0, most0, hk0.chg (hw0.trans hW)⟩
  clear e0 e1 e2 e3 e4
  have H0 := Go.Lib.hid hw0
  clear h1 his hkind hlen hw0
  unfold nodeV
  go_enter Try.func41, Try.ntmps41
  go_wp2_with fail
  refine H1.out.mono ?_
  rintro e w1 ⟨rfl, hc⟩
  obtain ⟨hb0, hb1, hb2, hb3, hb4⟩ := box5 hc
  have HC := Go.Lib.hid hc
  clear hc
  obtain ⟨e0, e1, e2, e3, e4⟩ := HK0.out _ HC.out
  go_wp2_with (first
    | (go_at_call 41
       refine (hf0.out kA0 kn0 kc0 _ (Hv.out _ HC.out) (HN0.out _ HC.out)).mono ?_
       rintro e w1 ⟨rfl, hc⟩
       have HC := Go.Lib.hid (HC.out.trans hc)
       clear hc hb0 hb1 hb2 hb3 hb4
       obtain ⟨hb0, hb1, hb2, hb3, hb4⟩ := box5 HC.out
       clear e0 e1 e2 e3 e4
       obtain ⟨e0, e1, e2, e3, e4⟩ := HK0.out _ HC.out))
  all_goals
    go_ret
    exact ⟨congrArg (fun b => Ending.returned (.bool b)) (by rw [Heq.out]; try simp [*]), H0.out.trans HC.out⟩

set_option maxHeartbeats 400000 in
theorem fac_other (d : Own) (ks : F) (kA : Option Addr) (kn kc : Nat) (w : World) (hv : Var0 w) (hN : IsN w d ks kA kn kc) (hds : MayC 54 desT d ks) (hn21 : d.kind ≠ 21) (hn25 : d.kind ≠ 25) (hn26 : d.kind ≠ 26) (hn27 : d.kind ≠ 27) (hn28 : d.kind ≠ 28) (hn29 : d.kind ≠ 29) (hn30 : d.kind ≠ 30) (hn31 : d.kind ≠ 31) (hn32 : d.kind ≠ 32) (hn33 : d.kind ≠ 33) :
    Calls Try.prog 41 #[nodeV d kA kn kc] w (fun e w' => e = .returned (.bool (facT d ks)) ∧ Chg NoB w w') := by
  have t21 : (d.kind == 21) = false := by simpa using hn21
  have t25 : (d.kind == 25) = false := by simpa using hn25
  have t26 : (d.kind == 26) = false := by simpa using hn26
  have t27 : (d.kind == 27) = false := by simpa using hn27
  have t28 : (d.kind == 28) = false := by simpa using hn28
  have t29 : (d.kind == 29) = false := by simpa using hn29
  have t30 : (d.kind == 30) = false := by simpa using hn30
  have t31 : (d.kind == 31) = false := by simpa using hn31
  have t32 : (d.kind == 32) = false := by simpa using hn32
  have t33 : (d.kind == 33) = false := by simpa using hn33
  have hw0 : Chg NoB w (w.alloc (.cells #[.int .i64 d.kind, .string d.nm, .int .u32 d.val, .bool d.mark, .slice kA kn kc] 28)) := (Chg.refl _ _).alloc _
  have h1 := hds kA kn kc (w.alloc (.cells #[.int .i64 d.kind, .string d.nm, .int .u32 d.val, .bool d.mark, .slice kA kn kc] 28)) (hv.chg hw0) (hN.chg hw0)
  rw [show desT d ks = facT d ks by unfold facT facM; simp only [t21, t25, t26, t27, t28, t29, t30, t31, t32, t33, Bool.false_eq_true, if_false, Bool.or_self]; rfl] at h1
  unfold nodeV at h1
  have H1 := Go.Lib.hid h1
  have H0 := Go.Lib.hid hw0
  clear h1 hw0 hv hN hn21 hn25 hn26 hn27 hn28 hn29 hn30 hn31 hn32 hn33
  unfold nodeV
  go_enter Try.func41, Try.ntmps41
  go_wp2_with fail
  refine H1.out.mono ?_
  rintro e w1 ⟨rfl, hc⟩
  go_wp2_with fail
  go_ret
  exact ⟨rfl, H0.out.trans hc⟩

theorem fac_c (d : Own) (ks : F) (hds : MayC 54 desT d ks) (hdes : ks.All (MayC 54 desT)) (hfac : ks.All (MayC 41 facT)) (hexp : ks.All (MayC 28 expT)) : MayC 41 facT d ks := by
  intro kA kn kc w hv hN
  by_cases h21 : d.kind = 21
  · cases his : isT d ks.len d.kind pK (-1) with
    | false => exact fac21a_false d ks kA kn kc w hv hN h21 his
    | true =>
      cases ks with
      | nil => exact fac21n_true d .nil kA kn kc w hv hN h21 rfl his
      | cons d0 k0 r =>
        by_cases hkc : kc = 1
        · exact fac21a_true d d0 k0 r kA kn kc w hv hN h21 (Go.Lib.hid hdes.1) hexp.2 hkc his
        · exact fac21b_true d d0 k0 r kA kn kc w hv hN h21 (Go.Lib.hid hdes.1) hexp.2 hkc his
  by_cases h25 : d.kind = 25
  · cases his : isT d ks.len d.kind pV 0 with
    | false => exact fac25_false d ks kA kn kc w hv hN h25 his
    | true => exact fac25_true d ks kA kn kc w hv hN h25 his
  by_cases h26 : d.kind = 26
  · cases his : isT d ks.len d.kind pV 0 with
    | false => exact fac26a_false d ks kA kn kc w hv hN h26 his
    | true =>
      by_cases hv256 : d.val < 256
      · exact fac26a_true d ks kA kn kc w hv hN h26 hv256 his
      · exact fac26b_true d ks kA kn kc w hv hN h26 hv256 his
  by_cases h27 : d.kind = 27
  · cases his : bareT d ks.len pN with
    | false => exact fac27_false d ks kA kn kc w hv hN h27 his
    | true => exact fac27_true d ks kA kn kc w hv hN h27 his
  by_cases h28 : d.kind = 28
  · cases his : isT d ks.len d.kind p0 0 with
    | false => exact fac28_false d ks kA kn kc w hv hN h28 his
    | true => exact fac28_true d ks kA kn kc w hv hN h28 his
  by_cases h29 : d.kind = 29
  · cases his : isT d ks.len d.kind p0 0 with
    | false => exact fac29_false d ks kA kn kc w hv hN h29 his
    | true => exact fac29_true d ks kA kn kc w hv hN h29 his
  by_cases h30 : d.kind = 30
  · cases his : isT d ks.len d.kind p0 0 with
    | false => exact fac30_false d ks kA kn kc w hv hN h30 his
    | true => exact fac30_true d ks kA kn kc w hv hN h30 his
  by_cases h31 : d.kind = 31
  · cases his : isT d ks.len d.kind pK (-1) with
    | false => exact fac31_false d ks kA kn kc w hv hN h31 his
    | true => exact fac31_true d ks kA kn kc w hv hN h31 hexp his
  by_cases h32 : d.kind = 32
  · cases his : isT d ks.len d.kind pK 1 with
    | false => exact fac32_false d ks kA kn kc w hv hN h32 his
    | true =>
      obtain ⟨d0, k0, rfl⟩ := len_one (isT_cnt his (by decide))
      exact fac32_true d d0 k0 .nil kA kn kc w hv hN h32 (Go.Lib.hid hexp.1) his
  by_cases h33 : d.kind = 33
  · cases his : isT d ks.len d.kind pK 1 with
    | false => exact fac33_false d ks kA kn kc w hv hN h33 his
    | true =>
      obtain ⟨d0, k0, rfl⟩ := len_one (isT_cnt his (by decide))
      exact fac33_true d d0 k0 .nil kA kn kc w hv hN h33 (Go.Lib.hid hfac.1) his
  exact fac_other d ks kA kn kc w hv hN hds h21 h25 h26 h27 h28 h29 h30 h31 h32 h33
end Go.Proofs.Ytnihjkcniddepaa
