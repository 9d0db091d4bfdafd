/- What is proved: the contracts of tree's functions of names and types, out of the contracts at the nodes below. Conditions: the library's variable holds a number. -/
import Derived.Test.YtnihjkcniddepaaNamed
namespace Go.Proofs.Ytnihjkcniddepaa
open Go.RowKit

set_option maxHeartbeats 400000 in
theorem mayDef_c (d : Own) (ks : F) : MayC 61 defT d ks := by
  intro kA kn kc w hv hN
  have hw0 : Chg NoB w (w.alloc (.cells #[.int .i64 d.kind, .string d.nm, .int .u32 d.val, .bool d.mark, .slice kA kn kc] 28)) := (Chg.refl _ _).alloc _
  have h1 := is_c d hN.ok kA kn kc (Nat.le_trans hN.le hN.most) 10 pNM (by decide) 0 _ (hv.chg hw0)
  have hlen := hN.kids.len
  rw [hlen] at h1
  rw [show isT d ks.len 10 pNM 0 = defT d ks from rfl, ← hlen] at h1
  unfold nodeV pNM at h1
  have H1 := Go.Lib.hid h1
  have H0 := Go.Lib.hid hw0
  clear h1 hw0 hlen
  unfold nodeV
  go_enter Try.func61, Try.ntmps61
  go_wp2_with fail
  refine H1.out.mono ?_
  rintro e w1 ⟨rfl, hc⟩
  go_wp2_with fail
  go_ret
  exact ⟨rfl, H0.out.trans hc⟩

set_option maxHeartbeats 400000 in
theorem mayNone_c (d : Own) (ks : F) : MayC 63 noneT d ks := by
  intro kA kn kc w hv hN
  have hw0 : Chg NoB w (w.alloc (.cells #[.int .i64 d.kind, .string d.nm, .int .u32 d.val, .bool d.mark, .slice kA kn kc] 28)) := (Chg.refl _ _).alloc _
  have h1 := is_c d hN.ok kA kn kc (Nat.le_trans hN.le hN.most) 18 p0 (by decide) 0 _ (hv.chg hw0)
  have hlen := hN.kids.len
  rw [hlen] at h1
  rw [show isT d ks.len 18 p0 0 = noneT d ks from rfl, ← hlen] at h1
  unfold nodeV p0 at h1
  have H1 := Go.Lib.hid h1
  have H0 := Go.Lib.hid hw0
  clear h1 hw0 hlen
  unfold nodeV
  go_enter Try.func63, Try.ntmps63
  go_wp2_with fail
  refine H1.out.mono ?_
  rintro e w1 ⟨rfl, hc⟩
  go_wp2_with fail
  go_ret
  exact ⟨rfl, H0.out.trans hc⟩

set_option maxHeartbeats 400000 in
theorem qual_x (d : Own) (ks : F) (kA : Option Addr) (kn kc : Nat) (w : World) (hv : Var0 w) (hN : IsN w d ks kA kn kc) (hx : MayC 45 wordT d ks) (hb : wordT d ks = true) :
    Calls Try.prog 51 #[nodeV d kA kn kc] w (fun e w' => e = .returned (.bool (qualT d ks)) ∧ Chg NoB w w') := by
  have hlen := hN.kids.len
  have hw0 : Chg NoB w (w.alloc (.cells #[.int .i64 d.kind, .string d.nm, .int .u32 d.val, .bool d.mark, .slice kA kn kc] 28)) := (Chg.refl _ _).alloc _
  have h1 := hx kA kn kc _ (hv.chg hw0) (hN.chg hw0)
  rw [hb] at h1
  unfold nodeV at h1
  have H1 := Go.Lib.hid h1
  have Heq := Go.Lib.hid (show qualT d ks = true from by
    have e : qualT d ks = (wordT d ks || (isT d (F.len ks) 12 pNK 1 && (F.atts ks |>.getD 0 badA).word)) := rfl
    rw [e, hb]; rfl)
  have H0 := Go.Lib.hid hw0
  clear h1 hlen hw0 hv hN hx hb
  unfold nodeV
  go_enter Try.func51, Try.ntmps51
  go_wp2_with fail
  refine H1.out.mono ?_
  rintro e w1 ⟨rfl, hc⟩
  obtain ⟨hb0, hb1, hb2, hb3, hb4⟩ := box5 hc
  have HC := Go.Lib.hid hc
  clear hc
  go_wp2_with fail
  go_ret
  exact ⟨congrArg (fun b => Ending.returned (.bool b)) Heq.out.symm, H0.out.trans HC.out⟩
set_option maxHeartbeats 400000 in
theorem qual_no (d : Own) (ks : F) (kA : Option Addr) (kn kc : Nat) (w : World) (hv : Var0 w) (hN : IsN w d ks kA kn kc) (hx : MayC 45 wordT d ks) (hb : wordT d ks = false) (his : isT d (F.len ks) 12 pNK 1 = false) :
    Calls Try.prog 51 #[nodeV d kA kn kc] w (fun e w' => e = .returned (.bool (qualT d ks)) ∧ Chg NoB w w') := by
  have hlen := hN.kids.len
  have hw0 : Chg NoB w (w.alloc (.cells #[.int .i64 d.kind, .string d.nm, .int .u32 d.val, .bool d.mark, .slice kA kn kc] 28)) := (Chg.refl _ _).alloc _
  have h1 := hx kA kn kc _ (hv.chg hw0) (hN.chg hw0)
  rw [hb] at h1
  unfold nodeV at h1
  have H1 := Go.Lib.hid h1
  have Heq := Go.Lib.hid (show qualT d ks = false from by
    have e : qualT d ks = (wordT d ks || (isT d (F.len ks) 12 pNK 1 && (F.atts ks |>.getD 0 badA).word)) := rfl
    rw [e, hb, his]; rfl)
  have h2 : ∀ W, Chg NoB (w.alloc (.cells #[.int .i64 d.kind, .string d.nm, .int .u32 d.val, .bool d.mark, .slice kA kn kc] 28)) W → _ := fun W hW => is_c d hN.ok kA kn kc (Nat.le_trans hN.le hN.most) 12 pNK (by decide) 1 W (hv.chg (hw0.trans hW))
  rw [hlen, his, ← hlen] at h2
  unfold nodeV pNK at h2
  have H2 := Go.Lib.hid h2
  have Hv : Hid (∀ W, Chg NoB (w.alloc (.cells #[.int .i64 d.kind, .string d.nm, .int .u32 d.val, .bool d.mark, .slice kA kn kc] 28)) W → Var0 W) := Go.Lib.hid fun W hW => hv.chg (hw0.trans hW)
  clear h2
  have H0 := Go.Lib.hid hw0
  clear h1 hlen hw0 hv hN hx hb his
  unfold nodeV
  go_enter Try.func51, Try.ntmps51
  go_wp2_with fail
  refine H1.out.mono ?_
  rintro e w1 ⟨rfl, hc⟩
  obtain ⟨hb0, hb1, hb2, hb3, hb4⟩ := box5 hc
  have HC := Go.Lib.hid hc
  clear hc
  go_wp2_with fail
  refine (H2.out _ HC.out).mono ?_
  rintro e w2 ⟨rfl, hc⟩
  have HC := Go.Lib.hid (HC.out.trans hc)
  clear hc hb0 hb1 hb2 hb3 hb4
  obtain ⟨hb0, hb1, hb2, hb3, hb4⟩ := box5 HC.out
  go_wp2_with fail
  go_ret
  exact ⟨congrArg (fun b => Ending.returned (.bool b)) Heq.out.symm, H0.out.trans HC.out⟩
set_option maxHeartbeats 400000 in
theorem qual_yes (d : Own) (d0 : Own) (k0 r : F) (kA : Option Addr) (kn kc : Nat) (w : World) (hv : Var0 w) (hN : IsN w d (.cons d0 k0 r) kA kn kc) (hx : MayC 45 wordT d (.cons d0 k0 r)) (hy0 : Hid (MayC 45 wordT d0 k0)) (hb : wordT d (.cons d0 k0 r) = false) (his : isT d (F.len (.cons d0 k0 r)) 12 pNK 1 = true) :
    Calls Try.prog 51 #[nodeV d kA kn kc] w (fun e w' => e = .returned (.bool (qualT d (.cons d0 k0 r))) ∧ Chg NoB w w') := by
  have hlen := hN.kids.len
  have hw0 : Chg NoB w (w.alloc (.cells #[.int .i64 d.kind, .string d.nm, .int .u32 d.val, .bool d.mark, .slice kA kn kc] 28)) := (Chg.refl _ _).alloc _
  have h1 := hx kA kn kc _ (hv.chg hw0) (hN.chg hw0)
  rw [hb] at h1
  unfold nodeV at h1
  have H1 := Go.Lib.hid h1
  have Heq := Go.Lib.hid (show qualT d (.cons d0 k0 r) = wordT d0 k0 from by
    have e : qualT d (.cons d0 k0 r) = (wordT d (.cons d0 k0 r) || (isT d (F.len (.cons d0 k0 r)) 12 pNK 1 && (F.atts (.cons d0 k0 r) |>.getD 0 badA).word)) := rfl
    rw [e, hb, his]; simp only [Bool.false_or, Bool.true_and]; rfl)
  have h2 : ∀ W, Chg NoB (w.alloc (.cells #[.int .i64 d.kind, .string d.nm, .int .u32 d.val, .bool d.mark, .slice kA kn kc] 28)) W → _ := fun W hW => is_c d hN.ok kA kn kc (Nat.le_trans hN.le hN.most) 12 pNK (by decide) 1 W (hv.chg (hw0.trans hW))
  rw [hlen, his, ← hlen] at h2
  unfold nodeV pNK at h2
  have H2 := Go.Lib.hid h2
  have Hv : Hid (∀ W, Chg NoB (w.alloc (.cells #[.int .i64 d.kind, .string d.nm, .int .u32 d.val, .bool d.mark, .slice kA kn kc] 28)) W → Var0 W) := Go.Lib.hid fun W hW => hv.chg (hw0.trans hW)
  clear h2
  have hkids := hN.kids
  obtain ⟨b0, o0, kA0, kn0, kc0, m0, hA0, rfl, ok0, le0, most0, e0, e1, e2, e3, e4, hk0, hr0⟩ := hkids
  subst hA0
  have HK0 : Hid (∀ W, Chg NoB (w.alloc (.cells #[.int .i64 d.kind, .string d.nm, .int .u32 d.val, .bool d.mark, .slice (some ⟨b0, o0, none⟩) (m0 + 1) kc] 28)) W → W.cell? ⟨b0, o0, none⟩ = some (Value.int .i64 d0.kind) ∧ W.cell? ⟨b0, o0 + 1, none⟩ = some (Value.string d0.nm) ∧ W.cell? ⟨b0, o0 + 2, none⟩ = some (Value.int .u32 d0.val) ∧ W.cell? ⟨b0, o0 + 3, none⟩ = some (Value.bool d0.mark) ∧ W.cell? ⟨b0, o0 + 4, none⟩ = some (Value.slice kA0 kn0 kc0)) := Go.Lib.hid fun W hW => by
    have hq := hw0.trans hW
    exact ⟨hq.cell e0 id, hq.cell e1 id, hq.cell e2 id, hq.cell e3 id, hq.cell e4 id⟩
  have HN0 : Hid (∀ W, Chg NoB (w.alloc (.cells #[.int .i64 d.kind, .string d.nm, .int .u32 d.val, .bool d.mark, .slice (some ⟨b0, o0, none⟩) (m0 + 1) kc] 28)) W → IsN W d0 k0 kA0 kn0 kc0) := Go.Lib.hid fun W hW => ⟨ok0, le0, most0, hk0.chg (hw0.trans hW)⟩
  clear e0 e1 e2 e3 e4
  have H0 := Go.Lib.hid hw0
  clear h1 hlen hw0 hv hN hx hb his
  unfold nodeV
  go_enter Try.func51, Try.ntmps51
  go_wp2_with fail
  refine H1.out.mono ?_
  rintro e w1 ⟨rfl, hc⟩
  obtain ⟨hb0, hb1, hb2, hb3, hb4⟩ := box5 hc
  have HC := Go.Lib.hid hc
  clear hc
  go_wp2_with fail
  refine (H2.out _ HC.out).mono ?_
  rintro e w2 ⟨rfl, hc⟩
  have HC := Go.Lib.hid (HC.out.trans hc)
  clear hc hb0 hb1 hb2 hb3 hb4
  obtain ⟨hb0, hb1, hb2, hb3, hb4⟩ := box5 HC.out
  obtain ⟨e0, e1, e2, e3, e4⟩ := HK0.out _ HC.out
  go_wp2_with fail
  refine (hy0.out kA0 kn0 kc0 _ (Hv.out _ HC.out) (HN0.out _ HC.out)).mono ?_
  rintro e w3 ⟨rfl, hc⟩
  have HC := Go.Lib.hid (HC.out.trans hc)
  clear hc
  go_wp2_with fail
  go_ret
  exact ⟨congrArg (fun b => Ending.returned (.bool b)) Heq.out.symm, H0.out.trans HC.out⟩
theorem qual_c (d : Own) (ks : F) (hx : MayC 45 wordT d ks) (hy : ks.All (MayC 45 wordT)) : MayC 51 qualT d ks := by
  intro kA kn kc w hv hN
  cases hb : wordT d ks with
  | true => exact qual_x d ks kA kn kc w hv hN hx hb
  | false =>
    cases his : isT d ks.len 12 pNK 1 with
    | false => exact qual_no d ks kA kn kc w hv hN hx hb his
    | true =>
      obtain ⟨d0, k0, rfl⟩ := len_one (isT_cnt his (by decide))
      exact qual_yes d d0 k0 .nil kA kn kc w hv hN hx (Go.Lib.hid hy.1) hb his

set_option maxHeartbeats 400000 in
theorem pk_x (d : Own) (ks : F) (kA : Option Addr) (kn kc : Nat) (w : World) (hv : Var0 w) (hN : IsN w d ks kA kn kc) (hx : MayC 51 qualT d ks) (hb : qualT d ks = true) :
    Calls Try.prog 69 #[nodeV d kA kn kc] w (fun e w' => e = .returned (.bool (pkT d ks)) ∧ Chg NoB w w') := by
  have hlen := hN.kids.len
  have hw0 : Chg NoB w (w.alloc (.cells #[.int .i64 d.kind, .string d.nm, .int .u32 d.val, .bool d.mark, .slice kA kn kc] 28)) := (Chg.refl _ _).alloc _
  have h1 := hx kA kn kc _ (hv.chg hw0) (hN.chg hw0)
  rw [hb] at h1
  unfold nodeV at h1
  have H1 := Go.Lib.hid h1
  have Heq := Go.Lib.hid (show pkT d ks = true from by
    have e : pkT d ks = (qualT d ks || (isT d (F.len ks) 13 pK 1 && (F.atts2 ks |>.getD 0 badB).qual)) := rfl
    rw [e, hb]; rfl)
  have H0 := Go.Lib.hid hw0
  clear h1 hlen hw0 hv hN hx hb
  unfold nodeV
  go_enter Try.func69, Try.ntmps69
  go_wp2_with fail
  refine H1.out.mono ?_
  rintro e w1 ⟨rfl, hc⟩
  obtain ⟨hb0, hb1, hb2, hb3, hb4⟩ := box5 hc
  have HC := Go.Lib.hid hc
  clear hc
  go_wp2_with fail
  go_ret
  exact ⟨congrArg (fun b => Ending.returned (.bool b)) Heq.out.symm, H0.out.trans HC.out⟩
set_option maxHeartbeats 400000 in
theorem pk_no (d : Own) (ks : F) (kA : Option Addr) (kn kc : Nat) (w : World) (hv : Var0 w) (hN : IsN w d ks kA kn kc) (hx : MayC 51 qualT d ks) (hb : qualT d ks = false) (his : isT d (F.len ks) 13 pK 1 = false) :
    Calls Try.prog 69 #[nodeV d kA kn kc] w (fun e w' => e = .returned (.bool (pkT d ks)) ∧ Chg NoB w w') := by
  have hlen := hN.kids.len
  have hw0 : Chg NoB w (w.alloc (.cells #[.int .i64 d.kind, .string d.nm, .int .u32 d.val, .bool d.mark, .slice kA kn kc] 28)) := (Chg.refl _ _).alloc _
  have h1 := hx kA kn kc _ (hv.chg hw0) (hN.chg hw0)
  rw [hb] at h1
  unfold nodeV at h1
  have H1 := Go.Lib.hid h1
  have Heq := Go.Lib.hid (show pkT d ks = false from by
    have e : pkT d ks = (qualT d ks || (isT d (F.len ks) 13 pK 1 && (F.atts2 ks |>.getD 0 badB).qual)) := rfl
    rw [e, hb, his]; rfl)
  have h2 : ∀ W, Chg NoB (w.alloc (.cells #[.int .i64 d.kind, .string d.nm, .int .u32 d.val, .bool d.mark, .slice kA kn kc] 28)) W → _ := fun W hW => is_c d hN.ok kA kn kc (Nat.le_trans hN.le hN.most) 13 pK (by decide) 1 W (hv.chg (hw0.trans hW))
  rw [hlen, his, ← hlen] at h2
  unfold nodeV pK at h2
  have H2 := Go.Lib.hid h2
  have Hv : Hid (∀ W, Chg NoB (w.alloc (.cells #[.int .i64 d.kind, .string d.nm, .int .u32 d.val, .bool d.mark, .slice kA kn kc] 28)) W → Var0 W) := Go.Lib.hid fun W hW => hv.chg (hw0.trans hW)
  clear h2
  have H0 := Go.Lib.hid hw0
  clear h1 hlen hw0 hv hN hx hb his
  unfold nodeV
  go_enter Try.func69, Try.ntmps69
  go_wp2_with fail
  refine H1.out.mono ?_
  rintro e w1 ⟨rfl, hc⟩
  obtain ⟨hb0, hb1, hb2, hb3, hb4⟩ := box5 hc
  have HC := Go.Lib.hid hc
  clear hc
  go_wp2_with fail
  refine (H2.out _ HC.out).mono ?_
  rintro e w2 ⟨rfl, hc⟩
  have HC := Go.Lib.hid (HC.out.trans hc)
  clear hc hb0 hb1 hb2 hb3 hb4
  obtain ⟨hb0, hb1, hb2, hb3, hb4⟩ := box5 HC.out
  go_wp2_with fail
  go_ret
  exact ⟨congrArg (fun b => Ending.returned (.bool b)) Heq.out.symm, H0.out.trans HC.out⟩
set_option maxHeartbeats 400000 in
theorem pk_yes (d : Own) (d0 : Own) (k0 r : F) (kA : Option Addr) (kn kc : Nat) (w : World) (hv : Var0 w) (hN : IsN w d (.cons d0 k0 r) kA kn kc) (hx : MayC 51 qualT d (.cons d0 k0 r)) (hy0 : Hid (MayC 51 qualT d0 k0)) (hb : qualT d (.cons d0 k0 r) = false) (his : isT d (F.len (.cons d0 k0 r)) 13 pK 1 = true) :
    Calls Try.prog 69 #[nodeV d kA kn kc] w (fun e w' => e = .returned (.bool (pkT d (.cons d0 k0 r))) ∧ Chg NoB w w') := by
  have hlen := hN.kids.len
  have hw0 : Chg NoB w (w.alloc (.cells #[.int .i64 d.kind, .string d.nm, .int .u32 d.val, .bool d.mark, .slice kA kn kc] 28)) := (Chg.refl _ _).alloc _
  have h1 := hx kA kn kc _ (hv.chg hw0) (hN.chg hw0)
  rw [hb] at h1
  unfold nodeV at h1
  have H1 := Go.Lib.hid h1
  have Heq := Go.Lib.hid (show pkT d (.cons d0 k0 r) = qualT d0 k0 from by
    have e : pkT d (.cons d0 k0 r) = (qualT d (.cons d0 k0 r) || (isT d (F.len (.cons d0 k0 r)) 13 pK 1 && (F.atts2 (.cons d0 k0 r) |>.getD 0 badB).qual)) := rfl
    rw [e, hb, his]; simp only [Bool.false_or, Bool.true_and]; rfl)
  have h2 : ∀ W, Chg NoB (w.alloc (.cells #[.int .i64 d.kind, .string d.nm, .int .u32 d.val, .bool d.mark, .slice kA kn kc] 28)) W → _ := fun W hW => is_c d hN.ok kA kn kc (Nat.le_trans hN.le hN.most) 13 pK (by decide) 1 W (hv.chg (hw0.trans hW))
  rw [hlen, his, ← hlen] at h2
  unfold nodeV pK at h2
  have H2 := Go.Lib.hid h2
  have Hv : Hid (∀ W, Chg NoB (w.alloc (.cells #[.int .i64 d.kind, .string d.nm, .int .u32 d.val, .bool d.mark, .slice kA kn kc] 28)) W → Var0 W) := Go.Lib.hid fun W hW => hv.chg (hw0.trans hW)
  clear h2
  have hkids := hN.kids
  obtain ⟨b0, o0, kA0, kn0, kc0, m0, hA0, rfl, ok0, le0, most0, e0, e1, e2, e3, e4, hk0, hr0⟩ := hkids
  subst hA0
  have HK0 : Hid (∀ W, Chg NoB (w.alloc (.cells #[.int .i64 d.kind, .string d.nm, .int .u32 d.val, .bool d.mark, .slice (some ⟨b0, o0, none⟩) (m0 + 1) kc] 28)) W → W.cell? ⟨b0, o0, none⟩ = some (Value.int .i64 d0.kind) ∧ W.cell? ⟨b0, o0 + 1, none⟩ = some (Value.string d0.nm) ∧ W.cell? ⟨b0, o0 + 2, none⟩ = some (Value.int .u32 d0.val) ∧ W.cell? ⟨b0, o0 + 3, none⟩ = some (Value.bool d0.mark) ∧ W.cell? ⟨b0, o0 + 4, none⟩ = some (Value.slice kA0 kn0 kc0)) := Go.Lib.hid fun W hW => by
    have hq := hw0.trans hW
    exact ⟨hq.cell e0 id, hq.cell e1 id, hq.cell e2 id, hq.cell e3 id, hq.cell e4 id⟩
  have HN0 : Hid (∀ W, Chg NoB (w.alloc (.cells #[.int .i64 d.kind, .string d.nm, .int .u32 d.val, .bool d.mark, .slice (some ⟨b0, o0, none⟩) (m0 + 1) kc] 28)) W → IsN W d0 k0 kA0 kn0 kc0) := Go.Lib.hid fun W hW => ⟨ok0, le0, most0, hk0.chg (hw0.trans hW)⟩
  clear e0 e1 e2 e3 e4
  have H0 := Go.Lib.hid hw0
  clear h1 hlen hw0 hv hN hx hb his
  unfold nodeV
  go_enter Try.func69, Try.ntmps69
  go_wp2_with fail
  refine H1.out.mono ?_
  rintro e w1 ⟨rfl, hc⟩
  obtain ⟨hb0, hb1, hb2, hb3, hb4⟩ := box5 hc
  have HC := Go.Lib.hid hc
  clear hc
  go_wp2_with fail
  refine (H2.out _ HC.out).mono ?_
  rintro e w2 ⟨rfl, hc⟩
  have HC := Go.Lib.hid (HC.out.trans hc)
  clear hc hb0 hb1 hb2 hb3 hb4
  obtain ⟨hb0, hb1, hb2, hb3, hb4⟩ := box5 HC.out
  obtain ⟨e0, e1, e2, e3, e4⟩ := HK0.out _ HC.out
  go_wp2_with fail
  refine (hy0.out kA0 kn0 kc0 _ (Hv.out _ HC.out) (HN0.out _ HC.out)).mono ?_
  rintro e w3 ⟨rfl, hc⟩
  have HC := Go.Lib.hid (HC.out.trans hc)
  clear hc
  go_wp2_with fail
  go_ret
  exact ⟨congrArg (fun b => Ending.returned (.bool b)) Heq.out.symm, H0.out.trans HC.out⟩
theorem pk_c (d : Own) (ks : F) (hx : MayC 51 qualT d ks) (hy : ks.All (MayC 51 qualT)) : MayC 69 pkT d ks := by
  intro kA kn kc w hv hN
  cases hb : qualT d ks with
  | true => exact pk_x d ks kA kn kc w hv hN hx hb
  | false =>
    cases his : isT d ks.len 13 pK 1 with
    | false => exact pk_no d ks kA kn kc w hv hN hx hb his
    | true =>
      obtain ⟨d0, k0, rfl⟩ := len_one (isT_cnt his (by decide))
      exact pk_yes d d0 k0 .nil kA kn kc w hv hN hx (Go.Lib.hid hy.1) hb his

end Go.Proofs.Ytnihjkcniddepaa
