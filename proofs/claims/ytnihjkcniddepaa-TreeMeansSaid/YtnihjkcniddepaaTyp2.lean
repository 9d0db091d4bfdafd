/- What is proved: the contracts of tree's MayType, mayFields, mayParam at a node, out of the contracts at the nodes below. Conditions: the library's variable holds a number. -/
import Derived.Test.YtnihjkcniddepaaTyp
namespace Go.Proofs.Ytnihjkcniddepaa
open Go.RowKit

set_option maxHeartbeats 400000 in
theorem typ14_false (d : Own) (ks : F) (kA : Option Addr) (kn kc : Nat) (w : World) (hv : Var0 w) (hN : IsN w d ks kA kn kc) (hkind : d.kind = 14) (his : isT d (F.len ks) d.kind pK (2) = false) :
    Calls Try.prog 32 #[nodeV d kA kn kc] w (fun e w' => e = .returned (.bool (typT d ks)) ∧ Chg NoB w w') := by
  have hlen := hN.kids.len
  have hw0 : Chg NoB w (w.alloc (.cells #[.int .i64 d.kind, .string d.nm, .int .u32 d.val, .bool d.mark, .slice kA kn kc] 28)) := (Chg.refl _ _).alloc _
  have h1 := is_c d hN.ok kA kn kc (Nat.le_trans hN.le hN.most) 14 pK (by decide) (2) (w.alloc (.cells #[.int .i64 d.kind, .string d.nm, .int .u32 d.val, .bool d.mark, .slice kA kn kc] 28)) (hv.chg hw0)
  rw [hlen, show isT d (F.len ks) 14 pK (2) = false from by rw [← hkind]; exact his, ← hlen] at h1
  unfold nodeV pK at h1
  have H1 := Go.Lib.hid h1
  have t14 : (d.kind == 14) = true := by simp [hkind]
  have Heq : Hid (typT d ks = false) := Go.Lib.hid (by show typM d _ _ _ = _; unfold typM; simp [t14, his])
  have H0 := Go.Lib.hid hw0
  clear h1 his hkind hlen hw0
  unfold nodeV
  go_enter Try.func32, Try.ntmps32
  go_wp2_with fail
  refine H1.out.mono ?_
  rintro e w1 ⟨rfl, hc⟩
  obtain ⟨hb0, hb1, hb2, hb3, hb4⟩ := box5 hc
  have HC := Go.Lib.hid hc
  clear hc
  go_wp2_with fail
  go_ret
  exact ⟨congrArg (fun b => Ending.returned (.bool b)) Heq.out.symm, H0.out.trans HC.out⟩
set_option maxHeartbeats 400000 in
theorem typ14_true (d : Own) (d0 : Own) (k0 : F) (d1 : Own) (k1 r : F) (kA : Option Addr) (kn kc : Nat) (w : World) (hv : Var0 w) (hN : IsN w d (.cons d0 k0 (.cons d1 k1 r)) kA kn kc) (hkind : d.kind = 14) (he0 : Hid (MayC 28 expT d0 k0)) (ht1 : Hid (MayC 32 typT d1 k1)) (his : isT d (F.len (.cons d0 k0 (.cons d1 k1 r))) d.kind pK (2) = true) :
    Calls Try.prog 32 #[nodeV d kA kn kc] w (fun e w' => e = .returned (.bool (typT d (.cons d0 k0 (.cons d1 k1 r)))) ∧ Chg NoB w w') := by
  have hlen := hN.kids.len
  have hw0 : Chg NoB w (w.alloc (.cells #[.int .i64 d.kind, .string d.nm, .int .u32 d.val, .bool d.mark, .slice kA kn kc] 28)) := (Chg.refl _ _).alloc _
  have h1 := is_c d hN.ok kA kn kc (Nat.le_trans hN.le hN.most) 14 pK (by decide) (2) (w.alloc (.cells #[.int .i64 d.kind, .string d.nm, .int .u32 d.val, .bool d.mark, .slice kA kn kc] 28)) (hv.chg hw0)
  rw [hlen, show isT d (F.len (.cons d0 k0 (.cons d1 k1 r))) 14 pK (2) = true from by rw [← hkind]; exact his, ← hlen] at h1
  unfold nodeV pK at h1
  have H1 := Go.Lib.hid h1
  have t14 : (d.kind == 14) = true := by simp [hkind]
  have Heq := Go.Lib.hid (show typT d (.cons d0 k0 (.cons d1 k1 r)) = (expT d0 k0 && typT d1 k1) by show typM d _ _ _ = _; unfold typM; simp only [t14, his, if_true, Bool.true_and]; rfl)
  have Hv : Hid (∀ W, Chg NoB (w.alloc (.cells #[.int .i64 d.kind, .string d.nm, .int .u32 d.val, .bool d.mark, .slice kA kn kc] 28)) W → Var0 W) := Go.Lib.hid fun W hW => hv.chg (hw0.trans hW)
  have hkids := hN.kids
  obtain ⟨b0, o0, kA0, kn0, kc0, m0, hA0, rfl, ok0, le0, most0, e0, e1, e2, e3, e4, hk0, hr0⟩ := hkids
  subst hA0
  obtain ⟨b1, o1, kA1, kn1, kc1, m1, hA1, rfl, ok1, le1, most1, g0, g1, g2, g3, g4, hk1, hr1⟩ := hr0
  injection hA1 with hA1
  injection hA1 with hA1 hA2
  subst hA1
  subst hA2
  have HK0 : Hid (∀ W, Chg NoB (w.alloc (.cells #[.int .i64 d.kind, .string d.nm, .int .u32 d.val, .bool d.mark, .slice (some ⟨b0, o0, none⟩) (m1 + 1 + 1) kc] 28)) W → W.cell? ⟨b0, o0, none⟩ = some (Value.int .i64 d0.kind) ∧ W.cell? ⟨b0, o0 + 1, none⟩ = some (Value.string d0.nm) ∧ W.cell? ⟨b0, o0 + 2, none⟩ = some (Value.int .u32 d0.val) ∧ W.cell? ⟨b0, o0 + 3, none⟩ = some (Value.bool d0.mark) ∧ W.cell? ⟨b0, o0 + 4, none⟩ = some (Value.slice kA0 kn0 kc0)) := Go.Lib.hid fun W hW => by
    have hq := hw0.trans hW
    exact ⟨hq.cell e0 id, hq.cell e1 id, hq.cell e2 id, hq.cell e3 id, hq.cell e4 id⟩
  have HN0 : Hid (∀ W, Chg NoB (w.alloc (.cells #[.int .i64 d.kind, .string d.nm, .int .u32 d.val, .bool d.mark, .slice (some ⟨b0, o0, none⟩) (m1 + 1 + 1) kc] 28)) W → IsN W d0 k0 kA0 kn0 kc0) := Go.Lib.hid fun W hW => ⟨ok0, le0, most0, hk0.chg (hw0.trans hW)⟩
  clear e0 e1 e2 e3 e4
  have HK1 : Hid (∀ W, Chg NoB (w.alloc (.cells #[.int .i64 d.kind, .string d.nm, .int .u32 d.val, .bool d.mark, .slice (some ⟨b0, o0, none⟩) (m1 + 1 + 1) kc] 28)) W → W.cell? ⟨b0, o0 + 5, none⟩ = some (Value.int .i64 d1.kind) ∧ W.cell? ⟨b0, o0 + 5 + 1, none⟩ = some (Value.string d1.nm) ∧ W.cell? ⟨b0, o0 + 5 + 2, none⟩ = some (Value.int .u32 d1.val) ∧ W.cell? ⟨b0, o0 + 5 + 3, none⟩ = some (Value.bool d1.mark) ∧ W.cell? ⟨b0, o0 + 5 + 4, none⟩ = some (Value.slice kA1 kn1 kc1)) := Go.Lib.hid fun W hW => by
    have hq := hw0.trans hW
    exact ⟨hq.cell g0 id, hq.cell g1 id, hq.cell g2 id, hq.cell g3 id, hq.cell g4 id⟩
  have HN1 : Hid (∀ W, Chg NoB (w.alloc (.cells #[.int .i64 d.kind, .string d.nm, .int .u32 d.val, .bool d.mark, .slice (some ⟨b0, o0, none⟩) (m1 + 1 + 1) kc] 28)) W → IsN W d1 k1 kA1 kn1 kc1) := Go.Lib.hid fun W hW => ⟨ok1, le1, most1, hk1.chg (hw0.trans hW)⟩
  clear g0 g1 g2 g3 g4
  have H0 := Go.Lib.hid hw0
  clear h1 his hkind hlen hw0
  unfold nodeV
  go_enter Try.func32, Try.ntmps32
  go_wp2_with fail
  refine H1.out.mono ?_
  rintro e w1 ⟨rfl, hc⟩
  obtain ⟨hb0, hb1, hb2, hb3, hb4⟩ := box5 hc
  have HC := Go.Lib.hid hc
  clear hc
  obtain ⟨e0, e1, e2, e3, e4⟩ := HK0.out _ HC.out
  obtain ⟨g0, g1, g2, g3, g4⟩ := HK1.out _ HC.out
  go_wp2_with (first
    | (go_at_call 28
       refine (he0.out kA0 kn0 kc0 _ (Hv.out _ HC.out) (HN0.out _ HC.out)).mono ?_
       rintro e w1 ⟨rfl, hc⟩
       have HC := Go.Lib.hid (HC.out.trans hc)
       clear hc hb0 hb1 hb2 hb3 hb4
       obtain ⟨hb0, hb1, hb2, hb3, hb4⟩ := box5 HC.out
       clear e0 e1 e2 e3 e4
       obtain ⟨e0, e1, e2, e3, e4⟩ := HK0.out _ HC.out
       clear g0 g1 g2 g3 g4
       obtain ⟨g0, g1, g2, g3, g4⟩ := HK1.out _ HC.out)
    | (go_at_call 32
       refine (ht1.out kA1 kn1 kc1 _ (Hv.out _ HC.out) (HN1.out _ HC.out)).mono ?_
       rintro e w1 ⟨rfl, hc⟩
       have HC := Go.Lib.hid (HC.out.trans hc)
       clear hc hb0 hb1 hb2 hb3 hb4
       obtain ⟨hb0, hb1, hb2, hb3, hb4⟩ := box5 HC.out
       clear e0 e1 e2 e3 e4
       obtain ⟨e0, e1, e2, e3, e4⟩ := HK0.out _ HC.out
       clear g0 g1 g2 g3 g4
       obtain ⟨g0, g1, g2, g3, g4⟩ := HK1.out _ HC.out))
  all_goals
    go_ret
    exact ⟨congrArg (fun b => Ending.returned (.bool b)) (by rw [Heq.out]; try simp [*]), H0.out.trans HC.out⟩

set_option maxHeartbeats 400000 in
theorem typ15_false (d : Own) (ks : F) (kA : Option Addr) (kn kc : Nat) (w : World) (hv : Var0 w) (hN : IsN w d ks kA kn kc) (hkind : d.kind = 15) (his : isT d (F.len ks) d.kind pK (-1) = false) :
    Calls Try.prog 32 #[nodeV d kA kn kc] w (fun e w' => e = .returned (.bool (typT d ks)) ∧ Chg NoB w w') := by
  have hlen := hN.kids.len
  have hw0 : Chg NoB w (w.alloc (.cells #[.int .i64 d.kind, .string d.nm, .int .u32 d.val, .bool d.mark, .slice kA kn kc] 28)) := (Chg.refl _ _).alloc _
  have h1 := is_c d hN.ok kA kn kc (Nat.le_trans hN.le hN.most) 15 pK (by decide) (-1) (w.alloc (.cells #[.int .i64 d.kind, .string d.nm, .int .u32 d.val, .bool d.mark, .slice kA kn kc] 28)) (hv.chg hw0)
  rw [hlen, show isT d (F.len ks) 15 pK (-1) = false from by rw [← hkind]; exact his, ← hlen] at h1
  unfold nodeV pK at h1
  have H1 := Go.Lib.hid h1
  have t14 : (d.kind == 14) = false := by simp [hkind]
  have t15 : (d.kind == 15) = true := by simp [hkind]
  have Heq : Hid (typT d ks = false) := Go.Lib.hid (by show typM d _ _ _ = _; unfold typM; simp [t15, his, t14])
  have H0 := Go.Lib.hid hw0
  clear h1 his hkind hlen hw0
  unfold nodeV
  go_enter Try.func32, Try.ntmps32
  go_wp2_with fail
  refine H1.out.mono ?_
  rintro e w1 ⟨rfl, hc⟩
  obtain ⟨hb0, hb1, hb2, hb3, hb4⟩ := box5 hc
  have HC := Go.Lib.hid hc
  clear hc
  go_wp2_with fail
  go_ret
  exact ⟨congrArg (fun b => Ending.returned (.bool b)) Heq.out.symm, H0.out.trans HC.out⟩
set_option maxHeartbeats 400000 in
theorem typ15_true (d : Own) (ks : F) (kA : Option Addr) (kn kc : Nat) (w : World) (hv : Var0 w) (hN : IsN w d ks kA kn kc) (hkind : d.kind = 15) (hall : F.All (MayC 50 fldsT) ks) (his : isT d (F.len ks) d.kind pK (-1) = true) :
    Calls Try.prog 32 #[nodeV d kA kn kc] w (fun e w' => e = .returned (.bool (typT d ks)) ∧ Chg NoB w w') := by
  have hlen := hN.kids.len
  have hw0 : Chg NoB w (w.alloc (.cells #[.int .i64 d.kind, .string d.nm, .int .u32 d.val, .bool d.mark, .slice kA kn kc] 28)) := (Chg.refl _ _).alloc _
  have h1 := is_c d hN.ok kA kn kc (Nat.le_trans hN.le hN.most) 15 pK (by decide) (-1) (w.alloc (.cells #[.int .i64 d.kind, .string d.nm, .int .u32 d.val, .bool d.mark, .slice kA kn kc] 28)) (hv.chg hw0)
  rw [hlen, show isT d (F.len ks) 15 pK (-1) = true from by rw [← hkind]; exact his, ← hlen] at h1
  unfold nodeV pK at h1
  have H1 := Go.Lib.hid h1
  have t14 : (d.kind == 14) = false := by simp [hkind]
  have t15 : (d.kind == 15) = true := by simp [hkind]
  have Heq := Go.Lib.hid (show typT d ks = F.all fldsT ks by show typM d _ _ _ = _; unfold typM; simp only [t14, t15, his, Bool.false_eq_true, if_false, if_true, Bool.true_and, F.all_att2]; rfl)
  have Hv : Hid (∀ W, Chg NoB (w.alloc (.cells #[.int .i64 d.kind, .string d.nm, .int .u32 d.val, .bool d.mark, .slice kA kn kc] 28)) W → Var0 W) := Go.Lib.hid fun W hW => hv.chg (hw0.trans hW)
  have HALLN : Hid (kn ≤ maxLen) := Go.Lib.hid (Nat.le_trans hN.le hN.most)
  have HALLL : Hid (∀ W, Chg NoB (w.alloc (.cells #[.int .i64 d.kind, .string d.nm, .int .u32 d.val, .bool d.mark, .slice kA kn kc] 28)) W → IsL W kA kn ks) := Go.Lib.hid fun W hW => hN.kids.chg (hw0.trans hW)
  have HALL : Hid (∀ W, Chg NoB (w.alloc (.cells #[.int .i64 d.kind, .string d.nm, .int .u32 d.val, .bool d.mark, .slice kA kn kc] 28)) W → Calls Try.prog 44 #[.slice kA kn kc, .func (.func 50) #[] #[]] W fun e w' => e = .returned (.bool (F.all fldsT ks)) ∧ Chg NoB W w') := Go.Lib.hid fun W hW => all_c _ cf_flds fldsT ks hall _ _ _ HALLN.out W (Hv.out W hW) (HALLL.out W hW)
  have H0 := Go.Lib.hid hw0
  clear h1 his hkind hlen hw0
  unfold nodeV
  go_enter Try.func32, Try.ntmps32
  go_wp2_with fail
  refine H1.out.mono ?_
  rintro e w1 ⟨rfl, hc⟩
  obtain ⟨hb0, hb1, hb2, hb3, hb4⟩ := box5 hc
  have HC := Go.Lib.hid hc
  clear hc
  go_wp2_with (first
    | (go_at_call 44
       refine (HALL.out _ HC.out).mono ?_
       rintro e w1 ⟨rfl, hc⟩
       have HC := Go.Lib.hid (HC.out.trans hc)
       clear hc hb0 hb1 hb2 hb3 hb4
       obtain ⟨hb0, hb1, hb2, hb3, hb4⟩ := box5 HC.out))
  all_goals
    go_ret
    exact ⟨congrArg (fun b => Ending.returned (.bool b)) (by rw [Heq.out]; try simp [*]), H0.out.trans HC.out⟩

set_option maxHeartbeats 400000 in
theorem typ17_false (d : Own) (ks : F) (kA : Option Addr) (kn kc : Nat) (w : World) (hv : Var0 w) (hN : IsN w d ks kA kn kc) (hkind : d.kind = 17) (his : isT d (F.len ks) d.kind pK (1) = false) :
    Calls Try.prog 32 #[nodeV d kA kn kc] w (fun e w' => e = .returned (.bool (typT d ks)) ∧ Chg NoB w w') := by
  have hlen := hN.kids.len
  have hw0 : Chg NoB w (w.alloc (.cells #[.int .i64 d.kind, .string d.nm, .int .u32 d.val, .bool d.mark, .slice kA kn kc] 28)) := (Chg.refl _ _).alloc _
  have h1 := is_c d hN.ok kA kn kc (Nat.le_trans hN.le hN.most) 17 pK (by decide) (1) (w.alloc (.cells #[.int .i64 d.kind, .string d.nm, .int .u32 d.val, .bool d.mark, .slice kA kn kc] 28)) (hv.chg hw0)
  rw [hlen, show isT d (F.len ks) 17 pK (1) = false from by rw [← hkind]; exact his, ← hlen] at h1
  unfold nodeV pK at h1
  have H1 := Go.Lib.hid h1
  have t14 : (d.kind == 14) = false := by simp [hkind]
  have t15 : (d.kind == 15) = false := by simp [hkind]
  have t17 : (d.kind == 17) = true := by simp [hkind]
  have Heq : Hid (typT d ks = false) := Go.Lib.hid (by show typM d _ _ _ = _; unfold typM; simp [t17, his, t14, t15])
  have H0 := Go.Lib.hid hw0
  clear h1 his hkind hlen hw0
  unfold nodeV
  go_enter Try.func32, Try.ntmps32
  go_wp2_with fail
  refine H1.out.mono ?_
  rintro e w1 ⟨rfl, hc⟩
  obtain ⟨hb0, hb1, hb2, hb3, hb4⟩ := box5 hc
  have HC := Go.Lib.hid hc
  clear hc
  go_wp2_with fail
  go_ret
  exact ⟨congrArg (fun b => Ending.returned (.bool b)) Heq.out.symm, H0.out.trans HC.out⟩
set_option maxHeartbeats 400000 in
theorem typ17_true (d : Own) (d0 : Own) (k0 r : F) (kA : Option Addr) (kn kc : Nat) (w : World) (hv : Var0 w) (hN : IsN w d (.cons d0 k0 r) kA kn kc) (hkind : d.kind = 17) (ht0 : Hid (MayC 32 typT d0 k0)) (his : isT d (F.len (.cons d0 k0 r)) d.kind pK (1) = true) :
    Calls Try.prog 32 #[nodeV d kA kn kc] w (fun e w' => e = .returned (.bool (typT d (.cons d0 k0 r))) ∧ Chg NoB w w') := by
  have hlen := hN.kids.len
  have hw0 : Chg NoB w (w.alloc (.cells #[.int .i64 d.kind, .string d.nm, .int .u32 d.val, .bool d.mark, .slice kA kn kc] 28)) := (Chg.refl _ _).alloc _
  have h1 := is_c d hN.ok kA kn kc (Nat.le_trans hN.le hN.most) 17 pK (by decide) (1) (w.alloc (.cells #[.int .i64 d.kind, .string d.nm, .int .u32 d.val, .bool d.mark, .slice kA kn kc] 28)) (hv.chg hw0)
  rw [hlen, show isT d (F.len (.cons d0 k0 r)) 17 pK (1) = true from by rw [← hkind]; exact his, ← hlen] at h1
  unfold nodeV pK at h1
  have H1 := Go.Lib.hid h1
  have t14 : (d.kind == 14) = false := by simp [hkind]
  have t15 : (d.kind == 15) = false := by simp [hkind]
  have t17 : (d.kind == 17) = true := by simp [hkind]
  have Heq := Go.Lib.hid (show typT d (.cons d0 k0 r) = typT d0 k0 by show typM d _ _ _ = _; unfold typM; simp only [t14, t15, t17, his, if_true, Bool.true_and, Bool.false_eq_true, if_false]; rfl)
  have Hv : Hid (∀ W, Chg NoB (w.alloc (.cells #[.int .i64 d.kind, .string d.nm, .int .u32 d.val, .bool d.mark, .slice kA kn kc] 28)) W → Var0 W) := Go.Lib.hid fun W hW => hv.chg (hw0.trans hW)
  have hkids := hN.kids
  obtain ⟨b0, o0, kA0, kn0, kc0, m0, hA0, rfl, ok0, le0, most0, e0, e1, e2, e3, e4, hk0, hr0⟩ := hkids
  subst hA0
  have HK0 : Hid (∀ W, Chg NoB (w.alloc (.cells #[.int .i64 d.kind, .string d.nm, .int .u32 d.val, .bool d.mark, .slice (some ⟨b0, o0, none⟩) (m0 + 1) kc] 28)) W → W.cell? ⟨b0, o0, none⟩ = some (Value.int .i64 d0.kind) ∧ W.cell? ⟨b0, o0 + 1, none⟩ = some (Value.string d0.nm) ∧ W.cell? ⟨b0, o0 + 2, none⟩ = some (Value.int .u32 d0.val) ∧ W.cell? ⟨b0, o0 + 3, none⟩ = some (Value.bool d0.mark) ∧ W.cell? ⟨b0, o0 + 4, none⟩ = some (Value.slice kA0 kn0 kc0)) := Go.Lib.hid fun W hW => by
    have hq := hw0.trans hW
    exact ⟨hq.cell e0 id, hq.cell e1 id, hq.cell e2 id, hq.cell e3 id, hq.cell e4 id⟩
  have HN0 : Hid (∀ W, Chg NoB (w.alloc (.cells #[.int .i64 d.kind, .string d.nm, .int .u32 d.val, .bool d.mark, .slice (some ⟨b0, o0, none⟩) (m0 + 1) kc] 28)) W → IsN W d0 k0 kA0 kn0 kc0) := Go.Lib.hid fun W hW => ⟨ok0, le0, most0, hk0.chg (hw0.trans hW)⟩
  clear e0 e1 e2 e3 e4
  have H0 := Go.Lib.hid hw0
  clear h1 his hkind hlen hw0
  unfold nodeV
  go_enter Try.func32, Try.ntmps32
  go_wp2_with fail
  refine H1.out.mono ?_
  rintro e w1 ⟨rfl, hc⟩
  obtain ⟨hb0, hb1, hb2, hb3, hb4⟩ := box5 hc
  have HC := Go.Lib.hid hc
  clear hc
  obtain ⟨e0, e1, e2, e3, e4⟩ := HK0.out _ HC.out
  go_wp2_with (first
    | (go_at_call 32
       refine (ht0.out kA0 kn0 kc0 _ (Hv.out _ HC.out) (HN0.out _ HC.out)).mono ?_
       rintro e w1 ⟨rfl, hc⟩
       have HC := Go.Lib.hid (HC.out.trans hc)
       clear hc hb0 hb1 hb2 hb3 hb4
       obtain ⟨hb0, hb1, hb2, hb3, hb4⟩ := box5 HC.out
       clear e0 e1 e2 e3 e4
       obtain ⟨e0, e1, e2, e3, e4⟩ := HK0.out _ HC.out))
  all_goals
    go_ret
    exact ⟨congrArg (fun b => Ending.returned (.bool b)) (by rw [Heq.out]; try simp [*]), H0.out.trans HC.out⟩

set_option maxHeartbeats 400000 in
theorem typ_other (d : Own) (ks : F) (kA : Option Addr) (kn kc : Nat) (w : World) (hv : Var0 w) (hN : IsN w d ks kA kn kc) (hq : MayC 51 qualT d ks) (hn14 : d.kind ≠ 14) (hn15 : d.kind ≠ 15) (hn17 : d.kind ≠ 17) :
    Calls Try.prog 32 #[nodeV d kA kn kc] w (fun e w' => e = .returned (.bool (typT d ks)) ∧ Chg NoB w w') := by
  have t14 : (d.kind == 14) = false := by simpa using hn14
  have t15 : (d.kind == 15) = false := by simpa using hn15
  have t17 : (d.kind == 17) = false := by simpa using hn17
  have hw0 : Chg NoB w (w.alloc (.cells #[.int .i64 d.kind, .string d.nm, .int .u32 d.val, .bool d.mark, .slice kA kn kc] 28)) := (Chg.refl _ _).alloc _
  have h1 := hq kA kn kc (w.alloc (.cells #[.int .i64 d.kind, .string d.nm, .int .u32 d.val, .bool d.mark, .slice kA kn kc] 28)) (hv.chg hw0) (hN.chg hw0)
  rw [show qualT d ks = typT d ks by show _ = typM d _ _ _; unfold typM; simp only [t14, t15, t17, Bool.false_eq_true, if_false, Bool.or_self]; rfl] at h1
  unfold nodeV at h1
  have H1 := Go.Lib.hid h1
  have H0 := Go.Lib.hid hw0
  clear h1 hw0 hv hN hn14 hn15 hn17
  unfold nodeV
  go_enter Try.func32, Try.ntmps32
  go_wp2_with fail
  refine H1.out.mono ?_
  rintro e w1 ⟨rfl, hc⟩
  go_wp2_with fail
  go_ret
  exact ⟨rfl, H0.out.trans hc⟩

theorem typ_c (d : Own) (ks : F) (hq : MayC 51 qualT d ks) (he : ks.All (MayC 28 expT)) (ht : ks.All (MayC 32 typT)) (hf : ks.All (MayC 50 fldsT)) : MayC 32 typT d ks := by
  intro kA kn kc w hv hN
  by_cases h14 : d.kind = 14
  · cases his : isT d ks.len d.kind pK 2 with
    | false => exact typ14_false d ks kA kn kc w hv hN h14 his
    | true =>
      obtain ⟨d0, k0, d1, k1, rfl⟩ := len_two (isT_cnt his (by decide))
      exact typ14_true d d0 k0 d1 k1 .nil kA kn kc w hv hN h14 (Go.Lib.hid he.1) (Go.Lib.hid ht.2.1) his
  by_cases h15 : d.kind = 15
  · cases his : isT d ks.len d.kind pK (-1) with
    | false => exact typ15_false d ks kA kn kc w hv hN h15 his
    | true => exact typ15_true d ks kA kn kc w hv hN h15 hf his
  by_cases h17 : d.kind = 17
  · cases his : isT d ks.len d.kind pK 1 with
    | false => exact typ17_false d ks kA kn kc w hv hN h17 his
    | true =>
      obtain ⟨d0, k0, rfl⟩ := len_one (isT_cnt his (by decide))
      exact typ17_true d d0 k0 .nil kA kn kc w hv hN h17 (Go.Lib.hid ht.1) his
  exact typ_other d ks kA kn kc w hv hN hq h14 h15 h17

set_option maxHeartbeats 400000 in
theorem flds_false (d : Own) (ks : F) (kA : Option Addr) (kn kc : Nat) (w : World) (hv : Var0 w) (hN : IsN w d ks kA kn kc) (his : isT d (F.len ks) 16 pK (-1) = false) :
    Calls Try.prog 50 #[nodeV d kA kn kc] w (fun e w' => e = .returned (.bool (fldsT d ks)) ∧ Chg NoB w w') := by
  have hlen := hN.kids.len
  have hw0 : Chg NoB w (w.alloc (.cells #[.int .i64 d.kind, .string d.nm, .int .u32 d.val, .bool d.mark, .slice kA kn kc] 28)) := (Chg.refl _ _).alloc _
  have h1 := is_c d hN.ok kA kn kc (Nat.le_trans hN.le hN.most) 16 pK (by decide) (-1) (w.alloc (.cells #[.int .i64 d.kind, .string d.nm, .int .u32 d.val, .bool d.mark, .slice kA kn kc] 28)) (hv.chg hw0)
  rw [hlen, his, ← hlen] at h1
  unfold nodeV pK at h1
  have H1 := Go.Lib.hid h1
  have Heq : Hid (fldsT d ks = false) := Go.Lib.hid (by show fldsM d _ _ = _; unfold fldsM; rw [his]; rfl)
  have H0 := Go.Lib.hid hw0
  clear h1 his hlen hw0
  unfold nodeV
  go_enter Try.func50, Try.ntmps50
  go_wp2_with fail
  refine H1.out.mono ?_
  rintro e w1 ⟨rfl, hc⟩
  obtain ⟨hb0, hb1, hb2, hb3, hb4⟩ := box5 hc
  have HC := Go.Lib.hid hc
  clear hc
  go_wp2_with fail
  go_ret
  exact ⟨congrArg (fun b => Ending.returned (.bool b)) Heq.out.symm, H0.out.trans HC.out⟩
set_option maxHeartbeats 400000 in
theorem flds_true (d : Own) (ks : F) (kA : Option Addr) (kn kc : Nat) (w : World) (hv : Var0 w) (hN : IsN w d ks kA kn kc) (h1s : F.All (MayC 45 wordT) ks) (h2s : F.All (MayC 32 typT) ks) (his : isT d (F.len ks) 16 pK (-1) = true) :
    Calls Try.prog 50 #[nodeV d kA kn kc] w (fun e w' => e = .returned (.bool (fldsT d ks)) ∧ Chg NoB w w') := by
  have hlen := hN.kids.len
  have hw0 : Chg NoB w (w.alloc (.cells #[.int .i64 d.kind, .string d.nm, .int .u32 d.val, .bool d.mark, .slice kA kn kc] 28)) := (Chg.refl _ _).alloc _
  have h1 := is_c d hN.ok kA kn kc (Nat.le_trans hN.le hN.most) 16 pK (by decide) (-1) (w.alloc (.cells #[.int .i64 d.kind, .string d.nm, .int .u32 d.val, .bool d.mark, .slice kA kn kc] 28)) (hv.chg hw0)
  rw [hlen, his, ← hlen] at h1
  unfold nodeV pK at h1
  have H1 := Go.Lib.hid h1
  have Heq := Go.Lib.hid (show fldsT d ks = namedT wordT typT ks by show fldsM d _ _ = _; unfold fldsM; rw [his, Bool.true_and, named_att2]; rfl)
  have Hv : Hid (∀ W, Chg NoB (w.alloc (.cells #[.int .i64 d.kind, .string d.nm, .int .u32 d.val, .bool d.mark, .slice kA kn kc] 28)) W → Var0 W) := Go.Lib.hid fun W hW => hv.chg (hw0.trans hW)
  have HALLN : Hid (kn ≤ kc ∧ kc ≤ maxLen) := Go.Lib.hid ⟨hN.le, hN.most⟩
  have HALLL : Hid (∀ W, Chg NoB (w.alloc (.cells #[.int .i64 d.kind, .string d.nm, .int .u32 d.val, .bool d.mark, .slice kA kn kc] 28)) W → IsL W kA kn ks) := Go.Lib.hid fun W hW => hN.kids.chg (hw0.trans hW)
  have HNM : Hid (∀ W, Chg NoB (w.alloc (.cells #[.int .i64 d.kind, .string d.nm, .int .u32 d.val, .bool d.mark, .slice kA kn kc] 28)) W → Calls Try.prog 59 #[.slice kA kn kc, .func (.func 45) #[] #[], .func (.func 32) #[] #[]] W fun e w' => e = .returned (.bool (namedT wordT typT ks)) ∧ Chg NoB W w') := Go.Lib.hid fun W hW => named_c _ _ cf_word cf_typ wordT typT ks h1s h2s _ _ _ HALLN.out.1 HALLN.out.2 W (Hv.out W hW) (HALLL.out W hW)
  have H0 := Go.Lib.hid hw0
  clear h1 his hlen hw0
  unfold nodeV
  go_enter Try.func50, Try.ntmps50
  go_wp2_with fail
  refine H1.out.mono ?_
  rintro e w1 ⟨rfl, hc⟩
  obtain ⟨hb0, hb1, hb2, hb3, hb4⟩ := box5 hc
  have HC := Go.Lib.hid hc
  clear hc
  go_wp2_with (first
    | (go_at_call 59
       refine (HNM.out _ HC.out).mono ?_
       rintro e w1 ⟨rfl, hc⟩
       have HC := Go.Lib.hid (HC.out.trans hc)
       clear hc hb0 hb1 hb2 hb3 hb4
       obtain ⟨hb0, hb1, hb2, hb3, hb4⟩ := box5 HC.out))
  all_goals
    go_ret
    exact ⟨congrArg (fun b => Ending.returned (.bool b)) (by rw [Heq.out]; try simp [*]), H0.out.trans HC.out⟩

theorem flds_c (d : Own) (ks : F) (h1 : ks.All (MayC 45 wordT)) (h2 : ks.All (MayC 32 typT)) : MayC 50 fldsT d ks := by
  intro kA kn kc w hv hN
  cases his : isT d ks.len 16 pK (-1) with
  | false => exact flds_false d ks kA kn kc w hv hN his
  | true => exact flds_true d ks kA kn kc w hv hN h1 h2 his

set_option maxHeartbeats 400000 in
theorem par_false (d : Own) (ks : F) (kA : Option Addr) (kn kc : Nat) (w : World) (hv : Var0 w) (hN : IsN w d ks kA kn kc) (his : isT d (F.len ks) 9 pMK (-1) = false) :
    Calls Try.prog 62 #[nodeV d kA kn kc] w (fun e w' => e = .returned (.bool (parT d ks)) ∧ Chg NoB w w') := by
  have hlen := hN.kids.len
  have hw0 : Chg NoB w (w.alloc (.cells #[.int .i64 d.kind, .string d.nm, .int .u32 d.val, .bool d.mark, .slice kA kn kc] 28)) := (Chg.refl _ _).alloc _
  have h1 := is_c d hN.ok kA kn kc (Nat.le_trans hN.le hN.most) 9 pMK (by decide) (-1) (w.alloc (.cells #[.int .i64 d.kind, .string d.nm, .int .u32 d.val, .bool d.mark, .slice kA kn kc] 28)) (hv.chg hw0)
  rw [hlen, his, ← hlen] at h1
  unfold nodeV pMK at h1
  have H1 := Go.Lib.hid h1
  have Heq : Hid (parT d ks = false) := Go.Lib.hid (by show parM d _ _ = _; unfold parM; rw [his]; rfl)
  have H0 := Go.Lib.hid hw0
  clear h1 his hlen hw0
  unfold nodeV
  go_enter Try.func62, Try.ntmps62
  go_wp2_with fail
  refine H1.out.mono ?_
  rintro e w1 ⟨rfl, hc⟩
  obtain ⟨hb0, hb1, hb2, hb3, hb4⟩ := box5 hc
  have HC := Go.Lib.hid hc
  clear hc
  go_wp2_with fail
  go_ret
  exact ⟨congrArg (fun b => Ending.returned (.bool b)) Heq.out.symm, H0.out.trans HC.out⟩
set_option maxHeartbeats 400000 in
theorem par_true (d : Own) (ks : F) (kA : Option Addr) (kn kc : Nat) (w : World) (hv : Var0 w) (hN : IsN w d ks kA kn kc) (h1s : F.All (MayC 45 wordT) ks) (h2s : F.All (MayC 69 pkT) ks) (his : isT d (F.len ks) 9 pMK (-1) = true) :
    Calls Try.prog 62 #[nodeV d kA kn kc] w (fun e w' => e = .returned (.bool (parT d ks)) ∧ Chg NoB w w') := by
  have hlen := hN.kids.len
  have hw0 : Chg NoB w (w.alloc (.cells #[.int .i64 d.kind, .string d.nm, .int .u32 d.val, .bool d.mark, .slice kA kn kc] 28)) := (Chg.refl _ _).alloc _
  have h1 := is_c d hN.ok kA kn kc (Nat.le_trans hN.le hN.most) 9 pMK (by decide) (-1) (w.alloc (.cells #[.int .i64 d.kind, .string d.nm, .int .u32 d.val, .bool d.mark, .slice kA kn kc] 28)) (hv.chg hw0)
  rw [hlen, his, ← hlen] at h1
  unfold nodeV pMK at h1
  have H1 := Go.Lib.hid h1
  have Heq := Go.Lib.hid (show parT d ks = namedT wordT pkT ks by show parM d _ _ = _; unfold parM; rw [his, Bool.true_and, named_att2]; rfl)
  have Hv : Hid (∀ W, Chg NoB (w.alloc (.cells #[.int .i64 d.kind, .string d.nm, .int .u32 d.val, .bool d.mark, .slice kA kn kc] 28)) W → Var0 W) := Go.Lib.hid fun W hW => hv.chg (hw0.trans hW)
  have HALLN : Hid (kn ≤ kc ∧ kc ≤ maxLen) := Go.Lib.hid ⟨hN.le, hN.most⟩
  have HALLL : Hid (∀ W, Chg NoB (w.alloc (.cells #[.int .i64 d.kind, .string d.nm, .int .u32 d.val, .bool d.mark, .slice kA kn kc] 28)) W → IsL W kA kn ks) := Go.Lib.hid fun W hW => hN.kids.chg (hw0.trans hW)
  have HNM : Hid (∀ W, Chg NoB (w.alloc (.cells #[.int .i64 d.kind, .string d.nm, .int .u32 d.val, .bool d.mark, .slice kA kn kc] 28)) W → Calls Try.prog 59 #[.slice kA kn kc, .func (.func 45) #[] #[], .func (.func 69) #[] #[]] W fun e w' => e = .returned (.bool (namedT wordT pkT ks)) ∧ Chg NoB W w') := Go.Lib.hid fun W hW => named_c _ _ cf_word cf_pk wordT pkT ks h1s h2s _ _ _ HALLN.out.1 HALLN.out.2 W (Hv.out W hW) (HALLL.out W hW)
  have H0 := Go.Lib.hid hw0
  clear h1 his hlen hw0
  unfold nodeV
  go_enter Try.func62, Try.ntmps62
  go_wp2_with fail
  refine H1.out.mono ?_
  rintro e w1 ⟨rfl, hc⟩
  obtain ⟨hb0, hb1, hb2, hb3, hb4⟩ := box5 hc
  have HC := Go.Lib.hid hc
  clear hc
  go_wp2_with (first
    | (go_at_call 59
       refine (HNM.out _ HC.out).mono ?_
       rintro e w1 ⟨rfl, hc⟩
       have HC := Go.Lib.hid (HC.out.trans hc)
       clear hc hb0 hb1 hb2 hb3 hb4
       obtain ⟨hb0, hb1, hb2, hb3, hb4⟩ := box5 HC.out))
  all_goals
    go_ret
    exact ⟨congrArg (fun b => Ending.returned (.bool b)) (by rw [Heq.out]; try simp [*]), H0.out.trans HC.out⟩

theorem par_c (d : Own) (ks : F) (h1 : ks.All (MayC 45 wordT)) (h2 : ks.All (MayC 69 pkT)) : MayC 62 parT d ks := by
  intro kA kn kc w hv hN
  cases his : isT d ks.len 9 pMK (-1) with
  | false => exact par_false d ks kA kn kc w hv hN his
  | true => exact par_true d ks kA kn kc w hv hN h1 h2 his

end Go.Proofs.Ytnihjkcniddepaa
