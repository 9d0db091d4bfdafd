/- What is proved: the contract of tree's mayDecl at a node that is a constant, a type, variables, out of the contracts at the nodes below. Conditions: the library's variable holds a number. -/
import Derived.Test.YtnihjkcniddepaaDec
namespace Go.Proofs.Ytnihjkcniddepaa
open Go.RowKit
theorem named_att2d (f : F) : namedL Att2.defn Att2.typ f.atts2 = namedT defT typT f := by
  first | exact named_att2 _ _ f | rfl

set_option maxHeartbeats 400000 in
theorem dcl4_false (d : Own) (ks : F) (kA : Option Addr) (kn kc : Nat) (w : World) (hv : Var0 w) (hN : IsN w d ks kA kn kc) (hkind : d.kind = 4) (his : isT d (F.len ks) d.kind pNMK (1) = false) :
    Calls Try.prog 57 #[nodeV d kA kn kc] w (fun e w' => e = .returned (.bool (declT d ks)) ∧ Chg NoB w w') := by
  have hlen := hN.kids.len
  have hw0 : Chg NoB w (w.alloc (.cells #[.int .i64 d.kind, .string d.nm, .int .u32 d.val, .bool d.mark, .slice kA kn kc] 28)) := (Chg.refl _ _).alloc _
  have h1 := is_c d hN.ok kA kn kc (Nat.le_trans hN.le hN.most) d.kind pNMK (by decide) (1) (w.alloc (.cells #[.int .i64 d.kind, .string d.nm, .int .u32 d.val, .bool d.mark, .slice kA kn kc] 28)) (hv.chg hw0)
  rw [hlen, his, ← hlen] at h1
  unfold nodeV pNMK at h1
  have H1 := Go.Lib.hid h1
  have t4 : (d.kind == 4) = true := by simp [hkind]
  have Heq : Hid (declT d ks = false) := Go.Lib.hid (by show declM d _ _ _ = _; unfold declM; simp [t4, his])
  have H0 := Go.Lib.hid hw0
  clear h1 his hkind hlen hw0
  unfold nodeV
  go_enter Try.func57, Try.ntmps57
  go_wp2_with fail
  refine H1.out.mono ?_
  rintro e w1 ⟨rfl, hc⟩
  obtain ⟨hb0, hb1, hb2, hb3, hb4⟩ := box5 hc
  have HC := Go.Lib.hid hc
  clear hc
  go_wp2_with fail
  go_ret
  exact ⟨congrArg (fun b => Ending.returned (.bool b)) Heq.out.symm, H0.out.trans HC.out⟩
set_option maxHeartbeats 400000 in
theorem dcl4_true (d : Own) (d0 : Own) (k0 r : F) (kA : Option Addr) (kn kc : Nat) (w : World) (hv : Var0 w) (hN : IsN w d (.cons d0 k0 r) kA kn kc) (hkind : d.kind = 4) (he0 : Hid (MayC 28 expT d0 k0)) (his : isT d (F.len (.cons d0 k0 r)) d.kind pNMK (1) = true) :
    Calls Try.prog 57 #[nodeV d kA kn kc] w (fun e w' => e = .returned (.bool (declT d (.cons d0 k0 r))) ∧ Chg NoB w w') := by
  have hlen := hN.kids.len
  have hw0 : Chg NoB w (w.alloc (.cells #[.int .i64 d.kind, .string d.nm, .int .u32 d.val, .bool d.mark, .slice kA kn kc] 28)) := (Chg.refl _ _).alloc _
  have h1 := is_c d hN.ok kA kn kc (Nat.le_trans hN.le hN.most) d.kind pNMK (by decide) (1) (w.alloc (.cells #[.int .i64 d.kind, .string d.nm, .int .u32 d.val, .bool d.mark, .slice kA kn kc] 28)) (hv.chg hw0)
  rw [hlen, his, ← hlen] at h1
  unfold nodeV pNMK at h1
  have H1 := Go.Lib.hid h1
  have t4 : (d.kind == 4) = true := by simp [hkind]
  have Heq := Go.Lib.hid (show declT d (.cons d0 k0 r) = expT d0 k0 by show declM d _ _ _ = _; unfold declM; simp only [t4, his, if_true, Bool.true_and]; rfl)
  have Hv : Hid (∀ W, Chg NoB (w.alloc (.cells #[.int .i64 d.kind, .string d.nm, .int .u32 d.val, .bool d.mark, .slice kA kn kc] 28)) W → Var0 W) := Go.Lib.hid fun W hW => hv.chg (hw0.trans hW)
  have hkids := hN.kids
  obtain ⟨b0, o0, kA0, kn0, kc0, m0, hA0, rfl, ok0, le0, most0, e0, e1, e2, e3, e4, hk0, hr0⟩ := hkids
  subst hA0
  have HK0 : Hid (∀ W, Chg NoB (w.alloc (.cells #[.int .i64 d.kind, .string d.nm, .int .u32 d.val, .bool d.mark, .slice (some ⟨b0, o0, none⟩) (m0 + 1) kc] 28)) W → W.cell? ⟨b0, o0, none⟩ = some (Value.int .i64 d0.kind) ∧ W.cell? ⟨b0, o0 + 1, none⟩ = some (Value.string d0.nm) ∧ W.cell? ⟨b0, o0 + 2, none⟩ = some (Value.int .u32 d0.val) ∧ W.cell? ⟨b0, o0 + 3, none⟩ = some (Value.bool d0.mark) ∧ W.cell? ⟨b0, o0 + 4, none⟩ = some (Value.slice kA0 kn0 kc0)) := Go.Lib.hid fun W hW => by
    have hq := hw0.trans hW
    exact ⟨hq.cell e0 id, hq.cell e1 id, hq.cell e2 id, hq.cell e3 id, hq.cell e4 id⟩
  have HN0 : Hid (∀ W, Chg NoB (w.alloc (.cells #[.int .i64 d.kind, .string d.nm, .int .u32 d.val, .bool d.mark, .slice (some ⟨b0, o0, none⟩) (m0 + 1) kc] 28)) W → IsN W d0 k0 kA0 kn0 kc0) := Go.Lib.hid fun W hW => ⟨ok0, le0, most0, hk0.chg (hw0.trans hW)⟩
  clear e0 e1 e2 e3 e4
  have H0 := Go.Lib.hid hw0
  clear h1 his hkind hlen hw0
  unfold nodeV
  go_enter Try.func57, Try.ntmps57
  go_wp2_with fail
  refine H1.out.mono ?_
  rintro e w1 ⟨rfl, hc⟩
  obtain ⟨hb0, hb1, hb2, hb3, hb4⟩ := box5 hc
  have HC := Go.Lib.hid hc
  clear hc
  obtain ⟨e0, e1, e2, e3, e4⟩ := HK0.out _ HC.out
  go_wp2_with (first
    | (go_at_call 28
       refine (he0.out kA0 kn0 kc0 _ (Hv.out _ HC.out) (HN0.out _ HC.out)).mono ?_
       rintro e w1 ⟨rfl, hc⟩
       have HC := Go.Lib.hid (HC.out.trans hc)
       clear hc hb0 hb1 hb2 hb3 hb4
       obtain ⟨hb0, hb1, hb2, hb3, hb4⟩ := box5 HC.out
       clear e0 e1 e2 e3 e4
       obtain ⟨e0, e1, e2, e3, e4⟩ := HK0.out _ HC.out))
  all_goals
    go_ret
    exact ⟨congrArg (fun b => Ending.returned (.bool b)) (by rw [Heq.out]; try simp [*]), H0.out.trans HC.out⟩

set_option maxHeartbeats 400000 in
theorem dcl5_false (d : Own) (ks : F) (kA : Option Addr) (kn kc : Nat) (w : World) (hv : Var0 w) (hN : IsN w d ks kA kn kc) (hkind : d.kind = 5) (his : isT d (F.len ks) d.kind pNMK (1) = false) :
    Calls Try.prog 57 #[nodeV d kA kn kc] w (fun e w' => e = .returned (.bool (declT d ks)) ∧ Chg NoB w w') := by
  have hlen := hN.kids.len
  have hw0 : Chg NoB w (w.alloc (.cells #[.int .i64 d.kind, .string d.nm, .int .u32 d.val, .bool d.mark, .slice kA kn kc] 28)) := (Chg.refl _ _).alloc _
  have h1 := is_c d hN.ok kA kn kc (Nat.le_trans hN.le hN.most) d.kind pNMK (by decide) (1) (w.alloc (.cells #[.int .i64 d.kind, .string d.nm, .int .u32 d.val, .bool d.mark, .slice kA kn kc] 28)) (hv.chg hw0)
  rw [hlen, his, ← hlen] at h1
  unfold nodeV pNMK at h1
  have H1 := Go.Lib.hid h1
  have t4 : (d.kind == 4) = false := by simp [hkind]
  have t5 : (d.kind == 5) = true := by simp [hkind]
  have Heq : Hid (declT d ks = false) := Go.Lib.hid (by show declM d _ _ _ = _; unfold declM; simp [t5, his, t4])
  have H0 := Go.Lib.hid hw0
  clear h1 his hkind hlen hw0
  unfold nodeV
  go_enter Try.func57, Try.ntmps57
  go_wp2_with fail
  refine H1.out.mono ?_
  rintro e w1 ⟨rfl, hc⟩
  obtain ⟨hb0, hb1, hb2, hb3, hb4⟩ := box5 hc
  have HC := Go.Lib.hid hc
  clear hc
  go_wp2_with fail
  go_ret
  exact ⟨congrArg (fun b => Ending.returned (.bool b)) Heq.out.symm, H0.out.trans HC.out⟩
set_option maxHeartbeats 400000 in
theorem dcl5_true (d : Own) (d0 : Own) (k0 r : F) (kA : Option Addr) (kn kc : Nat) (w : World) (hv : Var0 w) (hN : IsN w d (.cons d0 k0 r) kA kn kc) (hkind : d.kind = 5) (ht0 : Hid (MayC 32 typT d0 k0)) (his : isT d (F.len (.cons d0 k0 r)) d.kind pNMK (1) = true) :
    Calls Try.prog 57 #[nodeV d kA kn kc] w (fun e w' => e = .returned (.bool (declT d (.cons d0 k0 r))) ∧ Chg NoB w w') := by
  have hlen := hN.kids.len
  have hw0 : Chg NoB w (w.alloc (.cells #[.int .i64 d.kind, .string d.nm, .int .u32 d.val, .bool d.mark, .slice kA kn kc] 28)) := (Chg.refl _ _).alloc _
  have h1 := is_c d hN.ok kA kn kc (Nat.le_trans hN.le hN.most) d.kind pNMK (by decide) (1) (w.alloc (.cells #[.int .i64 d.kind, .string d.nm, .int .u32 d.val, .bool d.mark, .slice kA kn kc] 28)) (hv.chg hw0)
  rw [hlen, his, ← hlen] at h1
  unfold nodeV pNMK at h1
  have H1 := Go.Lib.hid h1
  have t4 : (d.kind == 4) = false := by simp [hkind]
  have t5 : (d.kind == 5) = true := by simp [hkind]
  have Heq := Go.Lib.hid (show declT d (.cons d0 k0 r) = typT d0 k0 by show declM d _ _ _ = _; unfold declM; simp only [t4, t5, his, if_true, Bool.true_and, Bool.false_eq_true, if_false]; rfl)
  have Hv : Hid (∀ W, Chg NoB (w.alloc (.cells #[.int .i64 d.kind, .string d.nm, .int .u32 d.val, .bool d.mark, .slice kA kn kc] 28)) W → Var0 W) := Go.Lib.hid fun W hW => hv.chg (hw0.trans hW)
  have hkids := hN.kids
  obtain ⟨b0, o0, kA0, kn0, kc0, m0, hA0, rfl, ok0, le0, most0, e0, e1, e2, e3, e4, hk0, hr0⟩ := hkids
  subst hA0
  have HK0 : Hid (∀ W, Chg NoB (w.alloc (.cells #[.int .i64 d.kind, .string d.nm, .int .u32 d.val, .bool d.mark, .slice (some ⟨b0, o0, none⟩) (m0 + 1) kc] 28)) W → W.cell? ⟨b0, o0, none⟩ = some (Value.int .i64 d0.kind) ∧ W.cell? ⟨b0, o0 + 1, none⟩ = some (Value.string d0.nm) ∧ W.cell? ⟨b0, o0 + 2, none⟩ = some (Value.int .u32 d0.val) ∧ W.cell? ⟨b0, o0 + 3, none⟩ = some (Value.bool d0.mark) ∧ W.cell? ⟨b0, o0 + 4, none⟩ = some (Value.slice kA0 kn0 kc0)) := Go.Lib.hid fun W hW => by
    have hq := hw0.trans hW
    exact ⟨hq.cell e0 id, hq.cell e1 id, hq.cell e2 id, hq.cell e3 id, hq.cell e4 id⟩
  have HN0 : Hid (∀ W, Chg NoB (w.alloc (.cells #[.int .i64 d.kind, .string d.nm, .int .u32 d.val, .bool d.mark, .slice (some ⟨b0, o0, none⟩) (m0 + 1) kc] 28)) W → IsN W d0 k0 kA0 kn0 kc0) := Go.Lib.hid fun W hW => ⟨ok0, le0, most0, hk0.chg (hw0.trans hW)⟩
  clear e0 e1 e2 e3 e4
  have H0 := Go.Lib.hid hw0
  clear h1 his hkind hlen hw0
  unfold nodeV
  go_enter Try.func57, Try.ntmps57
  go_wp2_with fail
  refine H1.out.mono ?_
  rintro e w1 ⟨rfl, hc⟩
  obtain ⟨hb0, hb1, hb2, hb3, hb4⟩ := box5 hc
  have HC := Go.Lib.hid hc
  clear hc
  obtain ⟨e0, e1, e2, e3, e4⟩ := HK0.out _ HC.out
  go_wp2_with (first
    | (go_at_call 32
       refine (ht0.out kA0 kn0 kc0 _ (Hv.out _ HC.out) (HN0.out _ HC.out)).mono ?_
       rintro e w1 ⟨rfl, hc⟩
       have HC := Go.Lib.hid (HC.out.trans hc)
       clear hc hb0 hb1 hb2 hb3 hb4
       obtain ⟨hb0, hb1, hb2, hb3, hb4⟩ := box5 HC.out
       clear e0 e1 e2 e3 e4
       obtain ⟨e0, e1, e2, e3, e4⟩ := HK0.out _ HC.out))
  all_goals
    go_ret
    exact ⟨congrArg (fun b => Ending.returned (.bool b)) (by rw [Heq.out]; try simp [*]), H0.out.trans HC.out⟩

set_option maxHeartbeats 400000 in
theorem dcl6_false (d : Own) (ks : F) (kA : Option Addr) (kn kc : Nat) (w : World) (hv : Var0 w) (hN : IsN w d ks kA kn kc) (hkind : d.kind = 6) (his : isT d (F.len ks) d.kind pK (-1) = false) :
    Calls Try.prog 57 #[nodeV d kA kn kc] w (fun e w' => e = .returned (.bool (declT d ks)) ∧ Chg NoB w w') := by
  have hlen := hN.kids.len
  have hw0 : Chg NoB w (w.alloc (.cells #[.int .i64 d.kind, .string d.nm, .int .u32 d.val, .bool d.mark, .slice kA kn kc] 28)) := (Chg.refl _ _).alloc _
  have h1 := is_c d hN.ok kA kn kc (Nat.le_trans hN.le hN.most) d.kind pK (by decide) (-1) (w.alloc (.cells #[.int .i64 d.kind, .string d.nm, .int .u32 d.val, .bool d.mark, .slice kA kn kc] 28)) (hv.chg hw0)
  rw [hlen, his, ← hlen] at h1
  unfold nodeV pK at h1
  have H1 := Go.Lib.hid h1
  have t4 : (d.kind == 4) = false := by simp [hkind]
  have t5 : (d.kind == 5) = false := by simp [hkind]
  have t6 : (d.kind == 6) = true := by simp [hkind]
  have Heq : Hid (declT d ks = false) := Go.Lib.hid (by show declM d _ _ _ = _; unfold declM; simp [t6, his, t4, t5])
  have H0 := Go.Lib.hid hw0
  clear h1 his hkind hlen hw0
  unfold nodeV
  go_enter Try.func57, Try.ntmps57
  go_wp2_with fail
  refine H1.out.mono ?_
  rintro e w1 ⟨rfl, hc⟩
  obtain ⟨hb0, hb1, hb2, hb3, hb4⟩ := box5 hc
  have HC := Go.Lib.hid hc
  clear hc
  go_wp2_with fail
  go_ret
  exact ⟨congrArg (fun b => Ending.returned (.bool b)) Heq.out.symm, H0.out.trans HC.out⟩
set_option maxHeartbeats 400000 in
theorem dcl6_true (d : Own) (ks : F) (kA : Option Addr) (kn kc : Nat) (w : World) (hv : Var0 w) (hN : IsN w d ks kA kn kc) (hkind : d.kind = 6) (h1s : F.All (MayC 61 defT) ks) (h2s : F.All (MayC 32 typT) ks) (his : isT d (F.len ks) d.kind pK (-1) = true) :
    Calls Try.prog 57 #[nodeV d kA kn kc] w (fun e w' => e = .returned (.bool (declT d ks)) ∧ Chg NoB w w') := by
  have hlen := hN.kids.len
  have hw0 : Chg NoB w (w.alloc (.cells #[.int .i64 d.kind, .string d.nm, .int .u32 d.val, .bool d.mark, .slice kA kn kc] 28)) := (Chg.refl _ _).alloc _
  have h1 := is_c d hN.ok kA kn kc (Nat.le_trans hN.le hN.most) d.kind pK (by decide) (-1) (w.alloc (.cells #[.int .i64 d.kind, .string d.nm, .int .u32 d.val, .bool d.mark, .slice kA kn kc] 28)) (hv.chg hw0)
  rw [hlen, his, ← hlen] at h1
  unfold nodeV pK at h1
  have H1 := Go.Lib.hid h1
  have t4 : (d.kind == 4) = false := by simp [hkind]
  have t5 : (d.kind == 5) = false := by simp [hkind]
  have t6 : (d.kind == 6) = true := by simp [hkind]
  have Heq := Go.Lib.hid (show declT d ks = namedT defT typT ks by show declM d _ _ _ = _; unfold declM; simp only [t4, t5, t6, his, Bool.false_eq_true, if_false, if_true, Bool.true_and]; exact named_att2d ks)
  have Hv : Hid (∀ W, Chg NoB (w.alloc (.cells #[.int .i64 d.kind, .string d.nm, .int .u32 d.val, .bool d.mark, .slice kA kn kc] 28)) W → Var0 W) := Go.Lib.hid fun W hW => hv.chg (hw0.trans hW)
  have HALLN : Hid (kn ≤ kc ∧ kc ≤ maxLen) := Go.Lib.hid ⟨hN.le, hN.most⟩
  have HALLL : Hid (∀ W, Chg NoB (w.alloc (.cells #[.int .i64 d.kind, .string d.nm, .int .u32 d.val, .bool d.mark, .slice kA kn kc] 28)) W → IsL W kA kn ks) := Go.Lib.hid fun W hW => hN.kids.chg (hw0.trans hW)
  have HNM : Hid (∀ W, Chg NoB (w.alloc (.cells #[.int .i64 d.kind, .string d.nm, .int .u32 d.val, .bool d.mark, .slice kA kn kc] 28)) W → Calls Try.prog 59 #[.slice kA kn kc, .func (.func 61) #[] #[], .func (.func 32) #[] #[]] W fun e w' => e = .returned (.bool (namedT defT typT ks)) ∧ Chg NoB W w') := Go.Lib.hid fun W hW => named_c _ _ cf_def cf_typ defT typT ks h1s h2s _ _ _ HALLN.out.1 HALLN.out.2 W (Hv.out W hW) (HALLL.out W hW)
  have H0 := Go.Lib.hid hw0
  clear h1 his hkind hlen hw0
  unfold nodeV
  go_enter Try.func57, Try.ntmps57
  go_wp2_with fail
  refine H1.out.mono ?_
  rintro e w1 ⟨rfl, hc⟩
  obtain ⟨hb0, hb1, hb2, hb3, hb4⟩ := box5 hc
  have HC := Go.Lib.hid hc
  clear hc
  go_wp2_with (first
    | (go_at_call 59
       refine (HNM.out _ HC.out).mono ?_
       rintro e w1 ⟨rfl, hc⟩
       have HC := Go.Lib.hid (HC.out.trans hc)
       clear hc hb0 hb1 hb2 hb3 hb4
       obtain ⟨hb0, hb1, hb2, hb3, hb4⟩ := box5 HC.out))
  all_goals
    go_ret
    exact ⟨congrArg (fun b => Ending.returned (.bool b)) (by rw [Heq.out]; try simp [*]), H0.out.trans HC.out⟩

set_option maxHeartbeats 400000 in
theorem dcl7_false (d : Own) (ks : F) (kA : Option Addr) (kn kc : Nat) (w : World) (hv : Var0 w) (hN : IsN w d ks kA kn kc) (hkind : d.kind = 7) (his : isT d (F.len ks) d.kind pNMK (5) = false) :
    Calls Try.prog 57 #[nodeV d kA kn kc] w (fun e w' => e = .returned (.bool (declT d ks)) ∧ Chg NoB w w') := by
  have hlen := hN.kids.len
  have hw0 : Chg NoB w (w.alloc (.cells #[.int .i64 d.kind, .string d.nm, .int .u32 d.val, .bool d.mark, .slice kA kn kc] 28)) := (Chg.refl _ _).alloc _
  have h1 := is_c d hN.ok kA kn kc (Nat.le_trans hN.le hN.most) d.kind pNMK (by decide) (5) (w.alloc (.cells #[.int .i64 d.kind, .string d.nm, .int .u32 d.val, .bool d.mark, .slice kA kn kc] 28)) (hv.chg hw0)
  rw [hlen, his, ← hlen] at h1
  unfold nodeV pNMK at h1
  have H1 := Go.Lib.hid h1
  have t4 : (d.kind == 4) = false := by simp [hkind]
  have t5 : (d.kind == 5) = false := by simp [hkind]
  have t6 : (d.kind == 6) = false := by simp [hkind]
  have t7 : (d.kind == 7) = true := by simp [hkind]
  have Heq : Hid (declT d ks = false) := Go.Lib.hid (by show declM d _ _ _ = _; unfold declM; simp [t7, his, t4, t5, t6])
  have H0 := Go.Lib.hid hw0
  clear h1 his hkind hlen hw0
  unfold nodeV
  go_enter Try.func57, Try.ntmps57
  go_wp2_with fail
  refine H1.out.mono ?_
  rintro e w1 ⟨rfl, hc⟩
  obtain ⟨hb0, hb1, hb2, hb3, hb4⟩ := box5 hc
  have HC := Go.Lib.hid hc
  clear hc
  go_wp2_with fail
  go_ret
  exact ⟨congrArg (fun b => Ending.returned (.bool b)) Heq.out.symm, H0.out.trans HC.out⟩

set_option maxHeartbeats 2000000 in
theorem dcl_other (d : Own) (ks : F) (kA : Option Addr) (kn kc : Nat) (w : World) (hn4 : d.kind ≠ 4) (hn5 : d.kind ≠ 5) (hn6 : d.kind ≠ 6) (hn7 : d.kind ≠ 7) :
    Calls Try.prog 57 #[nodeV d kA kn kc] w (fun e w' => e = .returned (.bool (declT d ks)) ∧ Chg NoB w w') := by
  have t4 : (d.kind == 4) = false := by simpa using hn4
  have t5 : (d.kind == 5) = false := by simpa using hn5
  have t6 : (d.kind == 6) = false := by simpa using hn6
  have t7 : (d.kind == 7) = false := by simpa using hn7
  have Heq : Hid (declT d ks = false) := Go.Lib.hid (by show declM d _ _ _ = _; unfold declM; simp only [t4, t5, t6, t7, Bool.false_eq_true, if_false])
  clear hn4 hn5 hn6 hn7
  unfold nodeV
  go_enter Try.func57, Try.ntmps57
  go_wp2_with fail
  go_ret
  exact ⟨by rw [Heq.out]; rfl, (Chg.refl _ _).alloc _⟩

end Go.Proofs.Ytnihjkcniddepaa
