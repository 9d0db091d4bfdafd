/- What is proved: the contract of tree's designator at a node, out of the contracts at the nodes below it. Conditions: the library's variable holds a number. -/
import Derived.Test.YtnihjkcniddepaaDefs
namespace Go.Proofs.Ytnihjkcniddepaa
open Go.RowKit
set_option maxHeartbeats 400000 in
theorem mayWord_c (d : Own) (ks : F) : MayC 45 wordT d ks := by
  intro kA kn kc w hv hN
  have hw0 : Chg NoB w (w.alloc (.cells #[.int .i64 d.kind, .string d.nm, .int .u32 d.val, .bool d.mark, .slice kA kn kc] 28)) := (Chg.refl _ _).alloc _
  have h1 := is_c d hN.ok kA kn kc (Nat.le_trans hN.le hN.most) 11 pN (by decide) 0 _ (hv.chg hw0)
  have hlen := hN.kids.len
  rw [hlen] at h1
  rw [show isT d ks.len 11 pN 0 = wordT d ks from rfl, ← hlen] at h1
  unfold nodeV pN at h1
  have H1 := Go.Lib.hid h1
  have H0 := Go.Lib.hid hw0
  clear h1 hw0 hlen
  unfold nodeV
  go_enter Try.func45, Try.ntmps45
  go_wp2_with fail
  refine H1.out.mono ?_
  rintro e w1 ⟨rfl, hc⟩
  go_wp2_with fail
  go_ret
  exact ⟨rfl, H0.out.trans hc⟩

set_option maxHeartbeats 400000 in
theorem des36_false (d : Own) (ks : F) (kA : Option Addr) (kn kc : Nat) (w : World) (hv : Var0 w) (hN : IsN w d ks kA kn kc) (hkind : d.kind = 36) (his : isT d (F.len ks) d.kind pNK (1) = false) :
    Calls Try.prog 54 #[nodeV d kA kn kc] w (fun e w' => e = .returned (.bool (desT d ks)) ∧ Chg NoB w w') := by
  have hlen := hN.kids.len
  have hw0 : Chg NoB w (w.alloc (.cells #[.int .i64 d.kind, .string d.nm, .int .u32 d.val, .bool d.mark, .slice kA kn kc] 28)) := (Chg.refl _ _).alloc _
  have h1 := is_c d hN.ok kA kn kc (Nat.le_trans hN.le hN.most) d.kind pNK (by decide) (1) (w.alloc (.cells #[.int .i64 d.kind, .string d.nm, .int .u32 d.val, .bool d.mark, .slice kA kn kc] 28)) (hv.chg hw0)
  rw [hlen, his, ← hlen] at h1
  unfold nodeV pNK at h1
  have H1 := Go.Lib.hid h1
  have t36 : (d.kind == 36) = true := by simp [hkind]
  have Heq : Hid (desT d ks = false) := Go.Lib.hid (by unfold desT desM; simp [t36, his])
  have H0 := Go.Lib.hid hw0
  clear h1 his hkind hlen hw0
  unfold nodeV
  go_enter Try.func54, Try.ntmps54
  go_wp2_with fail
  refine H1.out.mono ?_
  rintro e w1 ⟨rfl, hc⟩
  obtain ⟨hb0, hb1, hb2, hb3, hb4⟩ := box5 hc
  have HC := Go.Lib.hid hc
  clear hc
  go_wp2_with fail
  go_ret
  exact ⟨congrArg (fun b => Ending.returned (.bool b)) Heq.out.symm, H0.out.trans HC.out⟩
set_option maxHeartbeats 400000 in
theorem des36_true (d : Own) (d0 : Own) (k0 r : F) (kA : Option Addr) (kn kc : Nat) (w : World) (hv : Var0 w) (hN : IsN w d (.cons d0 k0 r) kA kn kc) (hkind : d.kind = 36) (hd0 : Hid (MayC 54 desT d0 k0)) (his : isT d (F.len (.cons d0 k0 r)) d.kind pNK (1) = true) :
    Calls Try.prog 54 #[nodeV d kA kn kc] w (fun e w' => e = .returned (.bool (desT d (.cons d0 k0 r))) ∧ Chg NoB w w') := by
  have hlen := hN.kids.len
  have hw0 : Chg NoB w (w.alloc (.cells #[.int .i64 d.kind, .string d.nm, .int .u32 d.val, .bool d.mark, .slice kA kn kc] 28)) := (Chg.refl _ _).alloc _
  have h1 := is_c d hN.ok kA kn kc (Nat.le_trans hN.le hN.most) d.kind pNK (by decide) (1) (w.alloc (.cells #[.int .i64 d.kind, .string d.nm, .int .u32 d.val, .bool d.mark, .slice kA kn kc] 28)) (hv.chg hw0)
  rw [hlen, his, ← hlen] at h1
  unfold nodeV pNK at h1
  have H1 := Go.Lib.hid h1
  have t36 : (d.kind == 36) = true := by simp [hkind]
  have Heq := Go.Lib.hid (show desT d (.cons d0 k0 r) = desT d0 k0 by unfold desT desM; simp only [t36, his, if_true, Bool.true_and]; rfl)
  have Hv : Hid (∀ W, Chg NoB (w.alloc (.cells #[.int .i64 d.kind, .string d.nm, .int .u32 d.val, .bool d.mark, .slice kA kn kc] 28)) W → Var0 W) := Go.Lib.hid fun W hW => hv.chg (hw0.trans hW)
  have hkids := hN.kids
  obtain ⟨b0, o0, kA0, kn0, kc0, m0, hA0, rfl, ok0, le0, most0, e0, e1, e2, e3, e4, hk0, hr0⟩ := hkids
  subst hA0
  have HK0 : Hid (∀ W, Chg NoB (w.alloc (.cells #[.int .i64 d.kind, .string d.nm, .int .u32 d.val, .bool d.mark, .slice (some ⟨b0, o0, none⟩) (m0 + 1) kc] 28)) W → W.cell? ⟨b0, o0, none⟩ = some (Value.int .i64 d0.kind) ∧ W.cell? ⟨b0, o0 + 1, none⟩ = some (Value.string d0.nm) ∧ W.cell? ⟨b0, o0 + 2, none⟩ = some (Value.int .u32 d0.val) ∧ W.cell? ⟨b0, o0 + 3, none⟩ = some (Value.bool d0.mark) ∧ W.cell? ⟨b0, o0 + 4, none⟩ = some (Value.slice kA0 kn0 kc0)) := Go.Lib.hid fun W hW => by
    have hq := hw0.trans hW
    exact ⟨hq.cell e0 id, hq.cell e1 id, hq.cell e2 id, hq.cell e3 id, hq.cell e4 id⟩
  have HN0 : Hid (∀ W, Chg NoB (w.alloc (.cells #[.int .i64 d.kind, .string d.nm, .int .u32 d.val, .bool d.mark, .slice (some ⟨b0, o0, none⟩) (m0 + 1) kc] 28)) W → IsN W d0 k0 kA0 kn0 kc0) := Go.Lib.hid fun W hW => ⟨ok0, le0, most0, hk0.chg (hw0.trans hW)⟩
  clear e0 e1 e2 e3 e4
  have H0 := Go.Lib.hid hw0
  clear h1 his hkind hlen hw0
  unfold nodeV
  go_enter Try.func54, Try.ntmps54
  go_wp2_with fail
  refine H1.out.mono ?_
  rintro e w1 ⟨rfl, hc⟩
  obtain ⟨hb0, hb1, hb2, hb3, hb4⟩ := box5 hc
  have HC := Go.Lib.hid hc
  clear hc
  obtain ⟨e0, e1, e2, e3, e4⟩ := HK0.out _ HC.out
  go_wp2_with (first
    | (go_at_call 54
       refine (hd0.out kA0 kn0 kc0 _ (Hv.out _ HC.out) (HN0.out _ HC.out)).mono ?_
       rintro e w1 ⟨rfl, hc⟩
       have HC := Go.Lib.hid (HC.out.trans hc)
       clear hc hb0 hb1 hb2 hb3 hb4
       obtain ⟨hb0, hb1, hb2, hb3, hb4⟩ := box5 HC.out
       clear e0 e1 e2 e3 e4
       obtain ⟨e0, e1, e2, e3, e4⟩ := HK0.out _ HC.out))
  all_goals
    go_ret
    exact ⟨congrArg (fun b => Ending.returned (.bool b)) (by rw [Heq.out]; try simp [*]), H0.out.trans HC.out⟩

set_option maxHeartbeats 400000 in
theorem des37_false (d : Own) (ks : F) (kA : Option Addr) (kn kc : Nat) (w : World) (hv : Var0 w) (hN : IsN w d ks kA kn kc) (hkind : d.kind = 37) (his : isT d (F.len ks) d.kind pK (2) = false) :
    Calls Try.prog 54 #[nodeV d kA kn kc] w (fun e w' => e = .returned (.bool (desT d ks)) ∧ Chg NoB w w') := by
  have hlen := hN.kids.len
  have hw0 : Chg NoB w (w.alloc (.cells #[.int .i64 d.kind, .string d.nm, .int .u32 d.val, .bool d.mark, .slice kA kn kc] 28)) := (Chg.refl _ _).alloc _
  have h1 := is_c d hN.ok kA kn kc (Nat.le_trans hN.le hN.most) d.kind pK (by decide) (2) (w.alloc (.cells #[.int .i64 d.kind, .string d.nm, .int .u32 d.val, .bool d.mark, .slice kA kn kc] 28)) (hv.chg hw0)
  rw [hlen, his, ← hlen] at h1
  unfold nodeV pK at h1
  have H1 := Go.Lib.hid h1
  have t36 : (d.kind == 36) = false := by simp [hkind]
  have t37 : (d.kind == 37) = true := by simp [hkind]
  have Heq : Hid (desT d ks = false) := Go.Lib.hid (by unfold desT desM; simp [t37, his, t36])
  have H0 := Go.Lib.hid hw0
  clear h1 his hkind hlen hw0
  unfold nodeV
  go_enter Try.func54, Try.ntmps54
  go_wp2_with fail
  refine H1.out.mono ?_
  rintro e w1 ⟨rfl, hc⟩
  obtain ⟨hb0, hb1, hb2, hb3, hb4⟩ := box5 hc
  have HC := Go.Lib.hid hc
  clear hc
  go_wp2_with fail
  go_ret
  exact ⟨congrArg (fun b => Ending.returned (.bool b)) Heq.out.symm, H0.out.trans HC.out⟩
set_option maxHeartbeats 400000 in
theorem des37_true (d : Own) (d0 : Own) (k0 : F) (d1 : Own) (k1 r : F) (kA : Option Addr) (kn kc : Nat) (w : World) (hv : Var0 w) (hN : IsN w d (.cons d0 k0 (.cons d1 k1 r)) kA kn kc) (hkind : d.kind = 37) (hd0 : Hid (MayC 54 desT d0 k0)) (he1 : Hid (MayC 28 expT d1 k1)) (his : isT d (F.len (.cons d0 k0 (.cons d1 k1 r))) d.kind pK (2) = true) :
    Calls Try.prog 54 #[nodeV d kA kn kc] w (fun e w' => e = .returned (.bool (desT d (.cons d0 k0 (.cons d1 k1 r)))) ∧ Chg NoB w w') := by
  have hlen := hN.kids.len
  have hw0 : Chg NoB w (w.alloc (.cells #[.int .i64 d.kind, .string d.nm, .int .u32 d.val, .bool d.mark, .slice kA kn kc] 28)) := (Chg.refl _ _).alloc _
  have h1 := is_c d hN.ok kA kn kc (Nat.le_trans hN.le hN.most) d.kind pK (by decide) (2) (w.alloc (.cells #[.int .i64 d.kind, .string d.nm, .int .u32 d.val, .bool d.mark, .slice kA kn kc] 28)) (hv.chg hw0)
  rw [hlen, his, ← hlen] at h1
  unfold nodeV pK at h1
  have H1 := Go.Lib.hid h1
  have t36 : (d.kind == 36) = false := by simp [hkind]
  have t37 : (d.kind == 37) = true := by simp [hkind]
  have Heq := Go.Lib.hid (show desT d (.cons d0 k0 (.cons d1 k1 r)) = (desT d0 k0 && expT d1 k1) by unfold desT desM; simp only [t36, t37, his, if_true, Bool.true_and, Bool.false_eq_true, if_false]; rfl)
  have Hv : Hid (∀ W, Chg NoB (w.alloc (.cells #[.int .i64 d.kind, .string d.nm, .int .u32 d.val, .bool d.mark, .slice kA kn kc] 28)) W → Var0 W) := Go.Lib.hid fun W hW => hv.chg (hw0.trans hW)
  have hkids := hN.kids
  obtain ⟨b0, o0, kA0, kn0, kc0, m0, hA0, rfl, ok0, le0, most0, e0, e1, e2, e3, e4, hk0, hr0⟩ := hkids
  subst hA0
  obtain ⟨b1, o1, kA1, kn1, kc1, m1, hA1, rfl, ok1, le1, most1, g0, g1, g2, g3, g4, hk1, hr1⟩ := hr0
  injection hA1 with hA1
  injection hA1 with hA1 hA2
  subst hA1
  subst hA2
  have HK0 : Hid (∀ W, Chg NoB (w.alloc (.cells #[.int .i64 d.kind, .string d.nm, .int .u32 d.val, .bool d.mark, .slice (some ⟨b0, o0, none⟩) (m1 + 1 + 1) kc] 28)) W → W.cell? ⟨b0, o0, none⟩ = some (Value.int .i64 d0.kind) ∧ W.cell? ⟨b0, o0 + 1, none⟩ = some (Value.string d0.nm) ∧ W.cell? ⟨b0, o0 + 2, none⟩ = some (Value.int .u32 d0.val) ∧ W.cell? ⟨b0, o0 + 3, none⟩ = some (Value.bool d0.mark) ∧ W.cell? ⟨b0, o0 + 4, none⟩ = some (Value.slice kA0 kn0 kc0)) := Go.Lib.hid fun W hW => by
    have hq := hw0.trans hW
    exact ⟨hq.cell e0 id, hq.cell e1 id, hq.cell e2 id, hq.cell e3 id, hq.cell e4 id⟩
  have HN0 : Hid (∀ W, Chg NoB (w.alloc (.cells #[.int .i64 d.kind, .string d.nm, .int .u32 d.val, .bool d.mark, .slice (some ⟨b0, o0, none⟩) (m1 + 1 + 1) kc] 28)) W → IsN W d0 k0 kA0 kn0 kc0) := Go.Lib.hid fun W hW => ⟨ok0, le0, most0, hk0.chg (hw0.trans hW)⟩
  clear e0 e1 e2 e3 e4
  have HK1 : Hid (∀ W, Chg NoB (w.alloc (.cells #[.int .i64 d.kind, .string d.nm, .int .u32 d.val, .bool d.mark, .slice (some ⟨b0, o0, none⟩) (m1 + 1 + 1) kc] 28)) W → W.cell? ⟨b0, o0 + 5, none⟩ = some (Value.int .i64 d1.kind) ∧ W.cell? ⟨b0, o0 + 5 + 1, none⟩ = some (Value.string d1.nm) ∧ W.cell? ⟨b0, o0 + 5 + 2, none⟩ = some (Value.int .u32 d1.val) ∧ W.cell? ⟨b0, o0 + 5 + 3, none⟩ = some (Value.bool d1.mark) ∧ W.cell? ⟨b0, o0 + 5 + 4, none⟩ = some (Value.slice kA1 kn1 kc1)) := Go.Lib.hid fun W hW => by
    have hq := hw0.trans hW
    exact ⟨hq.cell g0 id, hq.cell g1 id, hq.cell g2 id, hq.cell g3 id, hq.cell g4 id⟩
  have HN1 : Hid (∀ W, Chg NoB (w.alloc (.cells #[.int .i64 d.kind, .string d.nm, .int .u32 d.val, .bool d.mark, .slice (some ⟨b0, o0, none⟩) (m1 + 1 + 1) kc] 28)) W → IsN W d1 k1 kA1 kn1 kc1) := Go.Lib.hid fun W hW => ⟨ok1, le1, most1, hk1.chg (hw0.trans hW)⟩
  clear g0 g1 g2 g3 g4
  have H0 := Go.Lib.hid hw0
  clear h1 his hkind hlen hw0
  unfold nodeV
  go_enter Try.func54, Try.ntmps54
  go_wp2_with fail
  refine H1.out.mono ?_
  rintro e w1 ⟨rfl, hc⟩
  obtain ⟨hb0, hb1, hb2, hb3, hb4⟩ := box5 hc
  have HC := Go.Lib.hid hc
  clear hc
  obtain ⟨e0, e1, e2, e3, e4⟩ := HK0.out _ HC.out
  obtain ⟨g0, g1, g2, g3, g4⟩ := HK1.out _ HC.out
  go_wp2_with (first
    | (go_at_call 54
       refine (hd0.out kA0 kn0 kc0 _ (Hv.out _ HC.out) (HN0.out _ HC.out)).mono ?_
       rintro e w1 ⟨rfl, hc⟩
       have HC := Go.Lib.hid (HC.out.trans hc)
       clear hc hb0 hb1 hb2 hb3 hb4
       obtain ⟨hb0, hb1, hb2, hb3, hb4⟩ := box5 HC.out
       clear e0 e1 e2 e3 e4
       obtain ⟨e0, e1, e2, e3, e4⟩ := HK0.out _ HC.out
       clear g0 g1 g2 g3 g4
       obtain ⟨g0, g1, g2, g3, g4⟩ := HK1.out _ HC.out)
    | (go_at_call 28
       refine (he1.out kA1 kn1 kc1 _ (Hv.out _ HC.out) (HN1.out _ HC.out)).mono ?_
       rintro e w1 ⟨rfl, hc⟩
       have HC := Go.Lib.hid (HC.out.trans hc)
       clear hc hb0 hb1 hb2 hb3 hb4
       obtain ⟨hb0, hb1, hb2, hb3, hb4⟩ := box5 HC.out
       clear e0 e1 e2 e3 e4
       obtain ⟨e0, e1, e2, e3, e4⟩ := HK0.out _ HC.out
       clear g0 g1 g2 g3 g4
       obtain ⟨g0, g1, g2, g3, g4⟩ := HK1.out _ HC.out))
  all_goals
    go_ret
    exact ⟨congrArg (fun b => Ending.returned (.bool b)) (by rw [Heq.out]; try simp [*]), H0.out.trans HC.out⟩

set_option maxHeartbeats 400000 in
theorem des38_false (d : Own) (ks : F) (kA : Option Addr) (kn kc : Nat) (w : World) (hv : Var0 w) (hN : IsN w d ks kA kn kc) (hkind : d.kind = 38) (his : isT d (F.len ks) d.kind pK (1) = false) :
    Calls Try.prog 54 #[nodeV d kA kn kc] w (fun e w' => e = .returned (.bool (desT d ks)) ∧ Chg NoB w w') := by
  have hlen := hN.kids.len
  have hw0 : Chg NoB w (w.alloc (.cells #[.int .i64 d.kind, .string d.nm, .int .u32 d.val, .bool d.mark, .slice kA kn kc] 28)) := (Chg.refl _ _).alloc _
  have h1 := is_c d hN.ok kA kn kc (Nat.le_trans hN.le hN.most) d.kind pK (by decide) (1) (w.alloc (.cells #[.int .i64 d.kind, .string d.nm, .int .u32 d.val, .bool d.mark, .slice kA kn kc] 28)) (hv.chg hw0)
  rw [hlen, his, ← hlen] at h1
  unfold nodeV pK at h1
  have H1 := Go.Lib.hid h1
  have t36 : (d.kind == 36) = false := by simp [hkind]
  have t37 : (d.kind == 37) = false := by simp [hkind]
  have t38 : (d.kind == 38) = true := by simp [hkind]
  have Heq : Hid (desT d ks = false) := Go.Lib.hid (by unfold desT desM; simp [t38, his, t36, t37])
  have H0 := Go.Lib.hid hw0
  clear h1 his hkind hlen hw0
  unfold nodeV
  go_enter Try.func54, Try.ntmps54
  go_wp2_with fail
  refine H1.out.mono ?_
  rintro e w1 ⟨rfl, hc⟩
  obtain ⟨hb0, hb1, hb2, hb3, hb4⟩ := box5 hc
  have HC := Go.Lib.hid hc
  clear hc
  go_wp2_with fail
  go_ret
  exact ⟨congrArg (fun b => Ending.returned (.bool b)) Heq.out.symm, H0.out.trans HC.out⟩
set_option maxHeartbeats 400000 in
theorem des38_true (d : Own) (d0 : Own) (k0 r : F) (kA : Option Addr) (kn kc : Nat) (w : World) (hv : Var0 w) (hN : IsN w d (.cons d0 k0 r) kA kn kc) (hkind : d.kind = 38) (hd0 : Hid (MayC 54 desT d0 k0)) (his : isT d (F.len (.cons d0 k0 r)) d.kind pK (1) = true) :
    Calls Try.prog 54 #[nodeV d kA kn kc] w (fun e w' => e = .returned (.bool (desT d (.cons d0 k0 r))) ∧ Chg NoB w w') := by
  have hlen := hN.kids.len
  have hw0 : Chg NoB w (w.alloc (.cells #[.int .i64 d.kind, .string d.nm, .int .u32 d.val, .bool d.mark, .slice kA kn kc] 28)) := (Chg.refl _ _).alloc _
  have h1 := is_c d hN.ok kA kn kc (Nat.le_trans hN.le hN.most) d.kind pK (by decide) (1) (w.alloc (.cells #[.int .i64 d.kind, .string d.nm, .int .u32 d.val, .bool d.mark, .slice kA kn kc] 28)) (hv.chg hw0)
  rw [hlen, his, ← hlen] at h1
  unfold nodeV pK at h1
  have H1 := Go.Lib.hid h1
  have t36 : (d.kind == 36) = false := by simp [hkind]
  have t37 : (d.kind == 37) = false := by simp [hkind]
  have t38 : (d.kind == 38) = true := by simp [hkind]
  have Heq := Go.Lib.hid (show desT d (.cons d0 k0 r) = desT d0 k0 by unfold desT desM; simp only [t36, t37, t38, his, if_true, Bool.true_and, Bool.false_eq_true, if_false]; rfl)
  have Hv : Hid (∀ W, Chg NoB (w.alloc (.cells #[.int .i64 d.kind, .string d.nm, .int .u32 d.val, .bool d.mark, .slice kA kn kc] 28)) W → Var0 W) := Go.Lib.hid fun W hW => hv.chg (hw0.trans hW)
  have hkids := hN.kids
  obtain ⟨b0, o0, kA0, kn0, kc0, m0, hA0, rfl, ok0, le0, most0, e0, e1, e2, e3, e4, hk0, hr0⟩ := hkids
  subst hA0
  have HK0 : Hid (∀ W, Chg NoB (w.alloc (.cells #[.int .i64 d.kind, .string d.nm, .int .u32 d.val, .bool d.mark, .slice (some ⟨b0, o0, none⟩) (m0 + 1) kc] 28)) W → W.cell? ⟨b0, o0, none⟩ = some (Value.int .i64 d0.kind) ∧ W.cell? ⟨b0, o0 + 1, none⟩ = some (Value.string d0.nm) ∧ W.cell? ⟨b0, o0 + 2, none⟩ = some (Value.int .u32 d0.val) ∧ W.cell? ⟨b0, o0 + 3, none⟩ = some (Value.bool d0.mark) ∧ W.cell? ⟨b0, o0 + 4, none⟩ = some (Value.slice kA0 kn0 kc0)) := Go.Lib.hid fun W hW => by
    have hq := hw0.trans hW
    exact ⟨hq.cell e0 id, hq.cell e1 id, hq.cell e2 id, hq.cell e3 id, hq.cell e4 id⟩
  have HN0 : Hid (∀ W, Chg NoB (w.alloc (.cells #[.int .i64 d.kind, .string d.nm, .int .u32 d.val, .bool d.mark, .slice (some ⟨b0, o0, none⟩) (m0 + 1) kc] 28)) W → IsN W d0 k0 kA0 kn0 kc0) := Go.Lib.hid fun W hW => ⟨ok0, le0, most0, hk0.chg (hw0.trans hW)⟩
  clear e0 e1 e2 e3 e4
  have H0 := Go.Lib.hid hw0
  clear h1 his hkind hlen hw0
  unfold nodeV
  go_enter Try.func54, Try.ntmps54
  go_wp2_with fail
  refine H1.out.mono ?_
  rintro e w1 ⟨rfl, hc⟩
  obtain ⟨hb0, hb1, hb2, hb3, hb4⟩ := box5 hc
  have HC := Go.Lib.hid hc
  clear hc
  obtain ⟨e0, e1, e2, e3, e4⟩ := HK0.out _ HC.out
  go_wp2_with (first
    | (go_at_call 54
       refine (hd0.out kA0 kn0 kc0 _ (Hv.out _ HC.out) (HN0.out _ HC.out)).mono ?_
       rintro e w1 ⟨rfl, hc⟩
       have HC := Go.Lib.hid (HC.out.trans hc)
       clear hc hb0 hb1 hb2 hb3 hb4
       obtain ⟨hb0, hb1, hb2, hb3, hb4⟩ := box5 HC.out
       clear e0 e1 e2 e3 e4
       obtain ⟨e0, e1, e2, e3, e4⟩ := HK0.out _ HC.out))
  all_goals
    go_ret
    exact ⟨congrArg (fun b => Ending.returned (.bool b)) (by rw [Heq.out]; try simp [*]), H0.out.trans HC.out⟩

set_option maxHeartbeats 400000 in
theorem des_other (d : Own) (ks : F) (kA : Option Addr) (kn kc : Nat) (w : World) (hv : Var0 w) (hN : IsN w d ks kA kn kc) (hn36 : d.kind ≠ 36) (hn37 : d.kind ≠ 37) (hn38 : d.kind ≠ 38) :
    Calls Try.prog 54 #[nodeV d kA kn kc] w (fun e w' => e = .returned (.bool (desT d ks)) ∧ Chg NoB w w') := by
  have t36 : (d.kind == 36) = false := by simpa using hn36
  have t37 : (d.kind == 37) = false := by simpa using hn37
  have t38 : (d.kind == 38) = false := by simpa using hn38
  have hw0 : Chg NoB w (w.alloc (.cells #[.int .i64 d.kind, .string d.nm, .int .u32 d.val, .bool d.mark, .slice kA kn kc] 28)) := (Chg.refl _ _).alloc _
  have h1 := mayWord_c d ks kA kn kc (w.alloc (.cells #[.int .i64 d.kind, .string d.nm, .int .u32 d.val, .bool d.mark, .slice kA kn kc] 28)) (hv.chg hw0) (hN.chg hw0)
  rw [show wordT d ks = desT d ks by unfold desT desM wordT; simp only [t36, t37, t38, Bool.false_eq_true, if_false, Bool.or_self]] at h1
  unfold nodeV at h1
  have H1 := Go.Lib.hid h1
  have H0 := Go.Lib.hid hw0
  clear h1 hw0 hv hN hn36 hn37 hn38
  unfold nodeV
  go_enter Try.func54, Try.ntmps54
  go_wp2_with fail
  refine H1.out.mono ?_
  rintro e w1 ⟨rfl, hc⟩
  go_wp2_with fail
  go_ret
  exact ⟨rfl, H0.out.trans hc⟩

theorem isT_cnt {d : Own} {n : Nat} {k : Int} {p : ByteArray} {c : Int} (h : isT d n k p c = true) (hc : 0 ≤ c) : (n : Int) = c := by
  unfold isT at h
  simp only [Bool.and_eq_true, Bool.or_eq_true, decide_eq_true_eq, beq_iff_eq] at h
  rcases h.2 with h | h
  · omega
  · exact h
theorem len_one {f : F} (h : (f.len : Int) = 1) : ∃ d0 k0, f = .cons d0 k0 .nil := by
  cases f with
  | nil => simp [F.len] at h
  | cons d0 k0 r => cases r with
    | nil => exact ⟨d0, k0, rfl⟩
    | cons d1 k1 r => simp [F.len] at h; omega
theorem len_two {f : F} (h : (f.len : Int) = 2) : ∃ d0 k0 d1 k1, f = .cons d0 k0 (.cons d1 k1 .nil) := by
  cases f with
  | nil => simp [F.len] at h
  | cons d0 k0 r => 
    obtain ⟨d1, k1, rfl⟩ := len_one (f := r) (by simp [F.len] at h; omega)
    exact ⟨d0, k0, d1, k1, rfl⟩
theorem des_c (d : Own) (ks : F) (hdes : ks.All (MayC 54 desT)) (hexp : ks.All (MayC 28 expT)) : MayC 54 desT d ks := by
  intro kA kn kc w hv hN
  by_cases h36 : d.kind = 36
  · cases his : isT d ks.len d.kind pNK 1 with
    | false => exact des36_false d ks kA kn kc w hv hN h36 his
    | true =>
      obtain ⟨d0, k0, rfl⟩ := len_one (isT_cnt his (by decide))
      exact des36_true d d0 k0 .nil kA kn kc w hv hN h36 (Go.Lib.hid hdes.1) his
  by_cases h37 : d.kind = 37
  · cases his : isT d ks.len d.kind pK 2 with
    | false => exact des37_false d ks kA kn kc w hv hN h37 his
    | true =>
      obtain ⟨d0, k0, d1, k1, rfl⟩ := len_two (isT_cnt his (by decide))
      exact des37_true d d0 k0 d1 k1 .nil kA kn kc w hv hN h37 (Go.Lib.hid hdes.1) (Go.Lib.hid hexp.2.1) his
  by_cases h38 : d.kind = 38
  · cases his : isT d ks.len d.kind pK 1 with
    | false => exact des38_false d ks kA kn kc w hv hN h38 his
    | true =>
      obtain ⟨d0, k0, rfl⟩ := len_one (isT_cnt his (by decide))
      exact des38_true d d0 k0 .nil kA kn kc w hv hN h38 (Go.Lib.hid hdes.1) his
  exact des_other d ks kA kn kc w hv hN h36 h37 h38
end Go.Proofs.Ytnihjkcniddepaa
