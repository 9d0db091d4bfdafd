/- What is proved: the contracts of tree's Level, within, MayExpr at a node, out of the contracts at the nodes below it. Conditions: the library's variable holds a number. -/
import Derived.Test.YtnihjkcniddepaaLevels
import Derived.BigQuiet
import Derived.Deep.QuietTactic
import Derived.Deep.RegionHeld3
namespace Go.Proofs.Ytnihjkcniddepaa
open Go.RowKit
def WithC (d : Own) (ks : F) : Prop :=
  ∀ (kA : Option Addr) (kn kc : Nat) (W : World) (most : Int), (-10 ≤ most ∧ most ≤ 10) → Var0 W → IsN W d ks kA kn kc → Calls Try.prog 39 #[nodeV d kA kn kc, .int .i64 most] W fun e w' => e = .returned (.bool (withinT d ks most)) ∧ Chg NoB W w'

set_option maxHeartbeats 400000 in
theorem lev34_no (d : Own) (ks : F) (kA : Option Addr) (kn kc : Nat) (w : World) (hv : Var0 w) (hN : IsN w d ks kA kn kc) (hkind : d.kind = 34) (hno : ks.len ≠ 1) :
    Calls Try.prog 15 #[nodeV d kA kn kc] w (fun e w' => e = .returned (.int .i64 (levT d ks)) ∧ Chg NoB w w') := by
  have t34 : (d.kind == 34) = true := by simp [hkind]
  have hlen := hN.kids.len
  have hw0 : Chg NoB w (w.alloc (.cells #[.int .i64 d.kind, .string d.nm, .int .u32 d.val, .bool d.mark, .slice kA kn kc] 28)) := (Chg.refl _ _).alloc _
  have h1 := bare_c d kA kn kc (Nat.le_trans hN.le hN.most) pNK (by decide) (w.alloc (.cells #[.int .i64 d.kind, .string d.nm, .int .u32 d.val, .bool d.mark, .slice kA kn kc] 28)) (hv.chg hw0)
  unfold nodeV pNK at h1
  have H1 := Go.Lib.hid h1
  have Hv : Hid (∀ W, Chg NoB (w.alloc (.cells #[.int .i64 d.kind, .string d.nm, .int .u32 d.val, .bool d.mark, .slice kA kn kc] 28)) W → Var0 W) := Go.Lib.hid fun W hW => hv.chg (hw0.trans hW)
  have hk1 : ((kn : Int) == 1) = false := by simp; omega
  have Heq : Hid (levT d ks = -1) := Go.Lib.hid (by unfold levT levM; simp [t34, hno])
  have H0 := Go.Lib.hid hw0
  clear h1 hkind hlen hw0 hno
  unfold nodeV
  go_enter Try.func15, Try.ntmps15
  go_wp2_with fail
  refine H1.out.mono ?_
  rintro e w1 ⟨rfl, hc⟩
  obtain ⟨hb0, hb1, hb2, hb3, hb4⟩ := box5 hc
  have HC := Go.Lib.hid hc
  clear hc
  go_wp2_with fail
  all_goals
    go_ret
    exact ⟨congrArg (fun b => Ending.returned (.int .i64 b)) Heq.out.symm, H0.out.trans HC.out⟩

theorem levels_h (w : World) (H : Nat) (hH : w.heap.size = H) : Calls Try.prog 40 #[] w fun e w' => e = .returned (.map (some H)) ∧ MapIs w' H (strs levL) ∧ Chg NoB w w' := by
  subst hH
  exact (levels_c w).mono fun e w' h => ⟨h.1, h.2.1, h.2.2⟩
theorem signT_eq (s : ByteArray) : signT s = (decide (s.toList = [43]) || decide (s.toList = [45])) := by
  unfold signT; rw [ByteArray.toList_eq, Bool.eq_iff_iff]; simp
set_option maxHeartbeats 400000 in
theorem lev34_yes (d d0 : Own) (k0 r : F) (kA : Option Addr) (kn kc : Nat) (w : World) (hv : Var0 w) (hN : IsN w d (.cons d0 k0 r) kA kn kc) (hkind : d.kind = 34) (hone : kn = 1) (hw : Hid (WithC d0 k0)) :
    Calls Try.prog 15 #[nodeV d kA kn kc] w (fun e w' => e = .returned (.int .i64 (levT d (.cons d0 k0 r))) ∧ Chg NoB w w') := by
  have t34 : (d.kind == 34) = true := by simp [hkind]
  have hlen := hN.kids.len
  have hw0 : Chg NoB w (w.alloc (.cells #[.int .i64 d.kind, .string d.nm, .int .u32 d.val, .bool d.mark, .slice kA kn kc] 28)) := (Chg.refl _ _).alloc _
  have h1 := bare_c d kA kn kc (Nat.le_trans hN.le hN.most) pNK (by decide) (w.alloc (.cells #[.int .i64 d.kind, .string d.nm, .int .u32 d.val, .bool d.mark, .slice kA kn kc] 28)) (hv.chg hw0)
  unfold nodeV pNK at h1
  have H1 := Go.Lib.hid h1
  have Hv : Hid (∀ W, Chg NoB (w.alloc (.cells #[.int .i64 d.kind, .string d.nm, .int .u32 d.val, .bool d.mark, .slice kA kn kc] 28)) W → Var0 W) := Go.Lib.hid fun W hW => hv.chg (hw0.trans hW)
  have hkids := hN.kids
  obtain ⟨b0, o0, kA0, kn0, kc0, m0, hA0, rfl, ok0, le0, most0, e0, e1, e2, e3, e4, hk0, hr0⟩ := hkids
  subst hA0
  have HK0 : Hid (∀ W, Chg NoB (w.alloc (.cells #[.int .i64 d.kind, .string d.nm, .int .u32 d.val, .bool d.mark, .slice (some ⟨b0, o0, none⟩) (m0 + 1) kc] 28)) W → W.cell? ⟨b0, o0, none⟩ = some (Value.int .i64 d0.kind) ∧ W.cell? ⟨b0, o0 + 1, none⟩ = some (Value.string d0.nm) ∧ W.cell? ⟨b0, o0 + 2, none⟩ = some (Value.int .u32 d0.val) ∧ W.cell? ⟨b0, o0 + 3, none⟩ = some (Value.bool d0.mark) ∧ W.cell? ⟨b0, o0 + 4, none⟩ = some (Value.slice kA0 kn0 kc0)) := Go.Lib.hid fun W hW => by
    have hq := hw0.trans hW
    exact ⟨hq.cell e0 id, hq.cell e1 id, hq.cell e2 id, hq.cell e3 id, hq.cell e4 id⟩
  have HN0 : Hid (∀ W, Chg NoB (w.alloc (.cells #[.int .i64 d.kind, .string d.nm, .int .u32 d.val, .bool d.mark, .slice (some ⟨b0, o0, none⟩) (m0 + 1) kc] 28)) W → IsN W d0 k0 kA0 kn0 kc0) := Go.Lib.hid fun W hW => ⟨ok0, le0, most0, hk0.chg (hw0.trans hW)⟩
  clear e0 e1 e2 e3 e4
  obtain rfl : m0 = 0 := by omega
  have Heq : Hid (levT d (.cons d0 k0 r) = if bareT d 1 ⟨#[78, 75]⟩ && ((decide (d.nm.toList = [43]) || decide (d.nm.toList = [45])) && withinT d0 k0 1) then 2 else -1) := Go.Lib.hid (by unfold levT levM; simp only [t34, if_true]; rw [← hlen, signT_eq]; rfl)
  have H0 := Go.Lib.hid hw0
  clear h1 hkind hlen hw0 hone
  unfold nodeV
  go_enter Try.func15, Try.ntmps15
  go_wp2_with fail
  refine H1.out.mono ?_
  rintro e w1 ⟨rfl, hc⟩
  obtain ⟨hb0, hb1, hb2, hb3, hb4⟩ := box5 hc
  have HC := Go.Lib.hid hc
  clear hc
  obtain ⟨e0, e1, e2, e3, e4⟩ := HK0.out _ HC.out
  go_wp2_with (first
    | (go_at_call 39
       refine (hw.out kA0 kn0 kc0 _ _ (by omega) (Hv.out _ HC.out) (HN0.out _ HC.out)).mono ?_
       rintro e w1 ⟨rfl, hc⟩
       have HC := Go.Lib.hid (HC.out.trans hc)
       clear hc hb0 hb1 hb2 hb3 hb4
       obtain ⟨hb0, hb1, hb2, hb3, hb4⟩ := box5 HC.out
       clear e0 e1 e2 e3 e4
       obtain ⟨e0, e1, e2, e3, e4⟩ := HK0.out _ HC.out))
  all_goals
    go_ret
    exact ⟨congrArg (fun b => Ending.returned (.int .i64 b)) (by rw [Heq.out]; simp [*]), H0.out.trans HC.out⟩

set_option maxHeartbeats 1000000 in
theorem lev35_no (d : Own) (ks : F) (kA : Option Addr) (kn kc : Nat) (w : World) (hv : Var0 w) (hN : IsN w d ks kA kn kc) (hkind : d.kind = 35) (L : Int) (hL : opL d.nm = L) (hno : ks.len ≠ 2) :
    Calls Try.prog 15 #[nodeV d kA kn kc] w (fun e w' => e = .returned (.int .i64 (levT d ks)) ∧ Chg NoB w w') := by
  have t34 : (d.kind == 34) = false := by simp [hkind]
  have t35 : (d.kind == 35) = true := by simp [hkind]
  have hlen := hN.kids.len
  have hw0 : Chg NoB w (w.alloc (.cells #[.int .i64 d.kind, .string d.nm, .int .u32 d.val, .bool d.mark, .slice kA kn kc] 28)) := (Chg.refl _ _).alloc _
  have Hbx : Hid (∀ W, Chg NoB (w.alloc (.cells #[.int .i64 d.kind, .string d.nm, .int .u32 d.val, .bool d.mark, .slice kA (kn) kc] 28)) W → W.cell? ⟨w.heap.size, 1, none⟩ = some (.string d.nm)) := Go.Lib.hid fun W hW => (box5 hW).2.1
  have Hlk : Hid (∀ W, MapIs W (w.heap.size + 1) (strs levL) → (Instr.lookup 58 (.map (some (w.heap.size + 1))) (.string d.nm) false).run Try.prog W = .ok (.int .i64 L) W) := Go.Lib.hid fun W h => by
    rw [← hL, ← opL_look]
    exact run_lookup_str Try.underlying58 Try.underlying9 (by kernel_rfl) h d.nm
  have Hb : Hid (∀ W, Chg NoB (w.alloc (.cells #[.int .i64 d.kind, .string d.nm, .int .u32 d.val, .bool d.mark, .slice kA (kn) kc] 28)) W → Calls Try.prog 38 #[nodeV d kA (kn) kc, .string ⟨#[78, 75]⟩] W fun e w' => e = .returned (.bool (bareT d ((kn)) ⟨#[78, 75]⟩)) ∧ Chg NoB W w') := Go.Lib.hid fun W hW => bare_c d _ _ kc (Nat.le_trans hN.le hN.most) ⟨#[78, 75]⟩ (by decide) W (hv.chg (hw0.trans hW))
  have Hv : Hid (∀ W, Chg NoB (w.alloc (.cells #[.int .i64 d.kind, .string d.nm, .int .u32 d.val, .bool d.mark, .slice kA (kn) kc] 28)) W → Var0 W) := Go.Lib.hid fun W hW => hv.chg (hw0.trans hW)
  have hk1 : ((kn : Int) != 2) = true := by simp; omega
  have Heq : Hid (levT d ks = -1) := Go.Lib.hid (by unfold levT levM; simp [t34, t35, hno])
  have H0 := Go.Lib.hid hw0
  have hLr : L = 0 ∨ L = 1 ∨ L = 2 ∨ L = 3 := by rw [← hL]; exact opL_range _
  clear hkind hlen hw0 hno hL hv hN
  unfold nodeV at Hb ⊢
  rcases hLr with rfl | rfl | rfl | rfl
  all_goals
    go_enter Try.func15, Try.ntmps15
    go_wp2_with fail
    set_option maxRecDepth 100000 in
    go_region_held3 (fun w' => w'.cell? ⟨w.heap.size, 1, none⟩ = some (.string d.nm))
      (first
        | exact Hbx.out _ ((Chg.refl _ _).drew)
        | exact Hbx.out _ (((Chg.refl _ _).drew).trans hc))
      (first
        | (go_at_call 40; refine (levels_h _ (w.heap.size + 1) ?_).mono ?_; (simp); rintro e w1 ⟨rfl, hm, hc⟩; have hlk := Hlk.out _ hm; clear hm))
    have HC := Go.Lib.hid (((Chg.refl NoB (w.alloc (.cells #[.int .i64 d.kind, .string d.nm, .int .u32 d.val, .bool d.mark, .slice kA (kn) kc] 28))).drew).trans hc)
    clear hc hlk
    obtain ⟨hb0, hb1, hb2, hb3, hb4⟩ := box5 HC.out
    go_wp2_with (first
      | (go_at_call 38
         refine (Hb.out _ HC.out).mono ?_
         rintro e w1 ⟨rfl, hc⟩
         have HC := Go.Lib.hid (HC.out.trans hc)
         clear hc hb0 hb1 hb2 hb3 hb4
         obtain ⟨hb0, hb1, hb2, hb3, hb4⟩ := box5 HC.out))
    all_goals
      go_ret
      exact ⟨congrArg (fun b => Ending.returned (.int .i64 b)) Heq.out.symm, H0.out.trans HC.out⟩

set_option maxHeartbeats 2000000 in
theorem lev35_yes (d d0 : Own) (k0 : F) (d1 : Own) (k1 r : F) (kA : Option Addr) (kn kc : Nat) (w : World) (hv : Var0 w) (hN : IsN w d (.cons d0 k0 (.cons d1 k1 r)) kA kn kc) (hkind : d.kind = 35) (L : Int) (hL : opL d.nm = L) (htwo : kn = 2) (hw : Hid (WithC d0 k0)) (hw1 : Hid (WithC d1 k1)) :
    Calls Try.prog 15 #[nodeV d kA kn kc] w (fun e w' => e = .returned (.int .i64 (levT d (.cons d0 k0 (.cons d1 k1 r)))) ∧ Chg NoB w w') := by
  have t34 : (d.kind == 34) = false := by simp [hkind]
  have t35 : (d.kind == 35) = true := by simp [hkind]
  have hlen := hN.kids.len
  have hw0 : Chg NoB w (w.alloc (.cells #[.int .i64 d.kind, .string d.nm, .int .u32 d.val, .bool d.mark, .slice kA kn kc] 28)) := (Chg.refl _ _).alloc _
  have hkids := hN.kids
  obtain ⟨b0, o0, kA0, kn0, kc0, m0, hA0, rfl, ok0, le0, most0, e0, e1, e2, e3, e4, hk0, hr0⟩ := hkids
  subst hA0
  obtain ⟨b1, o1, kA1, kn1, kc1, m1, hA1, rfl, ok1, le1, most1, g0, g1, g2, g3, g4, hk1, hr1⟩ := hr0
  injection hA1 with hA1
  injection hA1 with hA1 hA2
  subst hA1
  subst hA2
  have HK0 : Hid (∀ W, Chg NoB (w.alloc (.cells #[.int .i64 d.kind, .string d.nm, .int .u32 d.val, .bool d.mark, .slice (some ⟨b0, o0, none⟩) (m1 + 1 + 1) kc] 28)) W → W.cell? ⟨b0, o0, none⟩ = some (Value.int .i64 d0.kind) ∧ W.cell? ⟨b0, o0 + 1, none⟩ = some (Value.string d0.nm) ∧ W.cell? ⟨b0, o0 + 2, none⟩ = some (Value.int .u32 d0.val) ∧ W.cell? ⟨b0, o0 + 3, none⟩ = some (Value.bool d0.mark) ∧ W.cell? ⟨b0, o0 + 4, none⟩ = some (Value.slice kA0 kn0 kc0)) := Go.Lib.hid fun W hW => by
    have hq := hw0.trans hW
    exact ⟨hq.cell e0 id, hq.cell e1 id, hq.cell e2 id, hq.cell e3 id, hq.cell e4 id⟩
  have HN0 : Hid (∀ W, Chg NoB (w.alloc (.cells #[.int .i64 d.kind, .string d.nm, .int .u32 d.val, .bool d.mark, .slice (some ⟨b0, o0, none⟩) (m1 + 1 + 1) kc] 28)) W → IsN W d0 k0 kA0 kn0 kc0) := Go.Lib.hid fun W hW => ⟨ok0, le0, most0, hk0.chg (hw0.trans hW)⟩
  clear e0 e1 e2 e3 e4
  have HK1 : Hid (∀ W, Chg NoB (w.alloc (.cells #[.int .i64 d.kind, .string d.nm, .int .u32 d.val, .bool d.mark, .slice (some ⟨b0, o0, none⟩) (m1 + 1 + 1) kc] 28)) W → W.cell? ⟨b0, o0 + 5, none⟩ = some (Value.int .i64 d1.kind) ∧ W.cell? ⟨b0, o0 + 5 + 1, none⟩ = some (Value.string d1.nm) ∧ W.cell? ⟨b0, o0 + 5 + 2, none⟩ = some (Value.int .u32 d1.val) ∧ W.cell? ⟨b0, o0 + 5 + 3, none⟩ = some (Value.bool d1.mark) ∧ W.cell? ⟨b0, o0 + 5 + 4, none⟩ = some (Value.slice kA1 kn1 kc1)) := Go.Lib.hid fun W hW => by
    have hq := hw0.trans hW
    exact ⟨hq.cell g0 id, hq.cell g1 id, hq.cell g2 id, hq.cell g3 id, hq.cell g4 id⟩
  have HN1 : Hid (∀ W, Chg NoB (w.alloc (.cells #[.int .i64 d.kind, .string d.nm, .int .u32 d.val, .bool d.mark, .slice (some ⟨b0, o0, none⟩) (m1 + 1 + 1) kc] 28)) W → IsN W d1 k1 kA1 kn1 kc1) := Go.Lib.hid fun W hW => ⟨ok1, le1, most1, hk1.chg (hw0.trans hW)⟩
  clear g0 g1 g2 g3 g4
  have Hbx : Hid (∀ W, Chg NoB (w.alloc (.cells #[.int .i64 d.kind, .string d.nm, .int .u32 d.val, .bool d.mark, .slice (some ⟨b0, o0, none⟩) (m1 + 1 + 1) kc] 28)) W → W.cell? ⟨w.heap.size, 1, none⟩ = some (.string d.nm)) := Go.Lib.hid fun W hW => (box5 hW).2.1
  have Hlk : Hid (∀ W, MapIs W (w.heap.size + 1) (strs levL) → (Instr.lookup 58 (.map (some (w.heap.size + 1))) (.string d.nm) false).run Try.prog W = .ok (.int .i64 L) W) := Go.Lib.hid fun W h => by
    rw [← hL, ← opL_look]
    exact run_lookup_str Try.underlying58 Try.underlying9 (by kernel_rfl) h d.nm
  have Hb : Hid (∀ W, Chg NoB (w.alloc (.cells #[.int .i64 d.kind, .string d.nm, .int .u32 d.val, .bool d.mark, .slice (some ⟨b0, o0, none⟩) (m1 + 1 + 1) kc] 28)) W → Calls Try.prog 38 #[nodeV d (some ⟨b0, o0, none⟩) (m1 + 1 + 1) kc, .string ⟨#[78, 75]⟩] W fun e w' => e = .returned (.bool (bareT d ((m1 + 1 + 1)) ⟨#[78, 75]⟩)) ∧ Chg NoB W w') := Go.Lib.hid fun W hW => bare_c d _ _ kc (Nat.le_trans hN.le hN.most) ⟨#[78, 75]⟩ (by decide) W (hv.chg (hw0.trans hW))
  have Hv : Hid (∀ W, Chg NoB (w.alloc (.cells #[.int .i64 d.kind, .string d.nm, .int .u32 d.val, .bool d.mark, .slice (some ⟨b0, o0, none⟩) (m1 + 1 + 1) kc] 28)) W → Var0 W) := Go.Lib.hid fun W hW => hv.chg (hw0.trans hW)
  obtain rfl : m1 = 0 := by omega
  have Heq : Hid (levT d (.cons d0 k0 (.cons d1 k1 r)) = if !(L == 0) && (bareT d 2 ⟨#[78, 75]⟩ && (withinT d0 k0 (min L 2) && withinT d1 k1 (L - 1))) then L else -1) := Go.Lib.hid (by unfold levT levM; simp only [t34, t35, if_true, Bool.false_eq_true, if_false]; rw [← hlen, hL]; rfl)
  have H0 := Go.Lib.hid hw0
  have hLr : L = 0 ∨ L = 1 ∨ L = 2 ∨ L = 3 := by rw [← hL]; exact opL_range _
  have HW0 : Hid (∀ most W, (-10 ≤ most ∧ most ≤ 10) → Chg NoB (w.alloc (.cells #[.int .i64 d.kind, .string d.nm, .int .u32 d.val, .bool d.mark, .slice (some ⟨b0, o0, none⟩) (0 + 1 + 1) kc] 28)) W → Calls Try.prog 39 #[nodeV d0 kA0 kn0 kc0, .int .i64 most] W fun e w' => e = .returned (.bool (withinT d0 k0 most)) ∧ Chg NoB W w') := Go.Lib.hid fun most W hm hW => hw.out kA0 kn0 kc0 W most hm (Hv.out _ hW) (HN0.out _ hW)
  have HW1 : Hid (∀ most W, (-10 ≤ most ∧ most ≤ 10) → Chg NoB (w.alloc (.cells #[.int .i64 d.kind, .string d.nm, .int .u32 d.val, .bool d.mark, .slice (some ⟨b0, o0, none⟩) (0 + 1 + 1) kc] 28)) W → Calls Try.prog 39 #[nodeV d1 kA1 kn1 kc1, .int .i64 most] W fun e w' => e = .returned (.bool (withinT d1 k1 most)) ∧ Chg NoB W w') := Go.Lib.hid fun most W hm hW => hw1.out kA1 kn1 kc1 W most hm (Hv.out _ hW) (HN1.out _ hW)
  clear hkind hlen hw0 hL hv hN htwo hw hw1
  unfold nodeV at Hb HW0 HW1 ⊢
  rcases hLr with rfl | rfl | rfl | rfl
  all_goals
    go_enter Try.func15, Try.ntmps15
    go_wp2_with fail
    set_option maxRecDepth 100000 in
    go_region_held3 (fun w' => w'.cell? ⟨w.heap.size, 1, none⟩ = some (.string d.nm))
      (first
        | exact Hbx.out _ ((Chg.refl _ _).drew)
        | exact Hbx.out _ (((Chg.refl _ _).drew).trans hc))
      (first
        | (go_at_call 40; refine (levels_h _ (w.heap.size + 1) ?_).mono ?_; (simp); rintro e w1 ⟨rfl, hm, hc⟩; have hlk := Hlk.out _ hm; clear hm))
    have HC := Go.Lib.hid (((Chg.refl NoB (w.alloc (.cells #[.int .i64 d.kind, .string d.nm, .int .u32 d.val, .bool d.mark, .slice (some ⟨b0, o0, none⟩) (0 + 1 + 1) kc] 28))).drew).trans hc)
    clear hc hlk
    obtain ⟨hb0, hb1, hb2, hb3, hb4⟩ := box5 HC.out
    obtain ⟨e0, e1, e2, e3, e4⟩ := HK0.out _ HC.out
    obtain ⟨g0, g1, g2, g3, g4⟩ := HK1.out _ HC.out
    go_wp2_with (first
      | (go_at_call 38
         refine (Hb.out _ HC.out).mono ?_
         rintro e w1 ⟨rfl, hc⟩
         have HC := Go.Lib.hid (HC.out.trans hc)
         clear hc hb0 hb1 hb2 hb3 hb4
         obtain ⟨hb0, hb1, hb2, hb3, hb4⟩ := box5 HC.out
         clear e0 e1 e2 e3 e4
         obtain ⟨e0, e1, e2, e3, e4⟩ := HK0.out _ HC.out
         clear g0 g1 g2 g3 g4
         obtain ⟨g0, g1, g2, g3, g4⟩ := HK1.out _ HC.out)
      | (go_at_call 39
         (with_reducible refine (HW0.out _ _ (by omega) HC.out).mono ?_)
         rintro e w1 ⟨rfl, hc⟩
         have HC := Go.Lib.hid (HC.out.trans hc)
         clear hc hb0 hb1 hb2 hb3 hb4
         obtain ⟨hb0, hb1, hb2, hb3, hb4⟩ := box5 HC.out
         clear e0 e1 e2 e3 e4
         obtain ⟨e0, e1, e2, e3, e4⟩ := HK0.out _ HC.out
         clear g0 g1 g2 g3 g4
         obtain ⟨g0, g1, g2, g3, g4⟩ := HK1.out _ HC.out)
      | (go_at_call 39
         (with_reducible refine (HW1.out _ _ (by omega) HC.out).mono ?_)
         rintro e w1 ⟨rfl, hc⟩
         have HC := Go.Lib.hid (HC.out.trans hc)
         clear hc hb0 hb1 hb2 hb3 hb4
         obtain ⟨hb0, hb1, hb2, hb3, hb4⟩ := box5 HC.out
         clear e0 e1 e2 e3 e4
         obtain ⟨e0, e1, e2, e3, e4⟩ := HK0.out _ HC.out
         clear g0 g1 g2 g3 g4
         obtain ⟨g0, g1, g2, g3, g4⟩ := HK1.out _ HC.out))
    all_goals
      go_ret
      refine ⟨congrArg (fun b => Ending.returned (.int .i64 b)) ?_, H0.out.trans HC.out⟩
      rw [Heq.out]
      clear HK0 HK1 HN0 HN1 Hbx Hlk Hb Hv HW0 HW1 H0 HC Heq
      simp_all

set_option maxHeartbeats 400000 in
theorem lev_other (d : Own) (ks : F) (kA : Option Addr) (kn kc : Nat) (w : World) (hv : Var0 w) (hN : IsN w d ks kA kn kc) (hf : MayC 41 facT d ks) (hn34 : d.kind ≠ 34) (hn35 : d.kind ≠ 35) :
    Calls Try.prog 15 #[nodeV d kA kn kc] w (fun e w' => e = .returned (.int .i64 (levT d ks)) ∧ Chg NoB w w') := by
  have t34 : (d.kind == 34) = false := by simpa using hn34
  have t35 : (d.kind == 35) = false := by simpa using hn35
  have hw0 : Chg NoB w (w.alloc (.cells #[.int .i64 d.kind, .string d.nm, .int .u32 d.val, .bool d.mark, .slice kA kn kc] 28)) := (Chg.refl _ _).alloc _
  have h1 := hf kA kn kc _ (hv.chg hw0) (hN.chg hw0)
  have Heq : Hid (levT d ks = if facT d ks then 0 else -1) := Go.Lib.hid (by unfold levT levM; simp only [t34, t35, Bool.false_eq_true, if_false]; rfl)
  unfold nodeV at h1
  have H1 := Go.Lib.hid h1
  have H0 := Go.Lib.hid hw0
  clear h1 hw0 hv hN hn34 hn35 hf
  unfold nodeV
  go_enter Try.func15, Try.ntmps15
  go_wp2_with fail
  refine H1.out.mono ?_
  rintro e w1 ⟨rfl, hc⟩
  go_wp2_with fail
  all_goals
    go_ret
    exact ⟨congrArg (fun b => Ending.returned (.int .i64 b)) (by rw [Heq.out]; simp [*]), H0.out.trans hc⟩
theorem lev_c (d : Own) (ks : F) (hf : MayC 41 facT d ks) (hw : ks.All WithC) : LevC d ks := by
  intro kA kn kc w hv hN
  have hlen := hN.kids.len
  by_cases h34 : d.kind = 34
  · by_cases h1 : ks.len = 1
    · obtain ⟨d0, k0, rfl⟩ := len_one (f := ks) (by omega)
      exact lev34_yes d d0 k0 .nil kA kn kc w hv hN h34 hlen (Go.Lib.hid hw.1)
    · exact lev34_no d ks kA kn kc w hv hN h34 h1
  by_cases h35 : d.kind = 35
  · by_cases h2 : ks.len = 2
    · obtain ⟨d0, k0, d1, k1, rfl⟩ := len_two (f := ks) (by omega)
      exact lev35_yes d d0 k0 d1 k1 .nil kA kn kc w hv hN h35 _ rfl hlen (Go.Lib.hid hw.1) (Go.Lib.hid hw.2.1)
    · exact lev35_no d ks kA kn kc w hv hN h35 _ rfl h2
  exact lev_other d ks kA kn kc w hv hN hf h34 h35
theorem levT_range (d : Own) (ks : F) : levT d ks = -1 ∨ levT d ks = 0 ∨ levT d ks = 1 ∨ levT d ks = 2 ∨ levT d ks = 3 := by
  unfold levT levM
  have := opL_range d.nm
  split
  · split <;> simp
  · split
    · split
      · rcases this with h | h | h | h <;> rw [h] <;> simp
      · simp
    · split <;> simp
set_option maxHeartbeats 400000 in
theorem within_c (d : Own) (ks : F) (hl : LevC d ks) : WithC d ks := by
  intro kA kn kc w most hm hv hN
  have hw0 : Chg NoB w (w.alloc (.cells #[.int .i64 d.kind, .string d.nm, .int .u32 d.val, .bool d.mark, .slice kA kn kc] 28)) := (Chg.refl _ _).alloc _
  have h1 := hl kA kn kc _ (hv.chg hw0) (hN.chg hw0)
  unfold nodeV at h1
  have hr : -1 ≤ levT d ks ∧ levT d ks ≤ 3 := by have := levT_range d ks; omega
  have Heq : Hid (withinT d ks most = (decide (0 ≤ levT d ks) && decide (levT d ks ≤ most))) := Go.Lib.hid rfl
  generalize levT d ks = l at *
  have H1 := Go.Lib.hid h1
  have H0 := Go.Lib.hid hw0
  clear h1 hw0 hv hN hl
  unfold nodeV
  go_enter Try.func39, Try.ntmps39
  go_wp2_with fail
  refine H1.out.mono ?_
  rintro e w1 ⟨rfl, hc⟩
  go_wp2_with fail
  all_goals
    go_ret
    refine ⟨congrArg (fun b => Ending.returned (.bool b)) ?_, H0.out.trans hc⟩
    rw [Heq.out]
    clear H1 H0 hc Heq
    simp
    omega
set_option maxHeartbeats 400000 in
theorem exp_c (d : Own) (ks : F) (hl : LevC d ks) : MayC 28 expT d ks := by
  intro kA kn kc w hv hN
  have hw0 : Chg NoB w (w.alloc (.cells #[.int .i64 d.kind, .string d.nm, .int .u32 d.val, .bool d.mark, .slice kA kn kc] 28)) := (Chg.refl _ _).alloc _
  have h1 := hl kA kn kc _ (hv.chg hw0) (hN.chg hw0)
  unfold nodeV at h1
  have H1 := Go.Lib.hid h1
  have H0 := Go.Lib.hid hw0
  clear h1 hw0 hv hN hl
  unfold nodeV
  go_enter Try.func28, Try.ntmps28
  go_wp2_with fail
  refine H1.out.mono ?_
  rintro e w1 ⟨rfl, hc⟩
  go_wp2_with fail
  all_goals
    go_ret
    exact ⟨rfl, H0.out.trans hc⟩
/-- all contracts of expressions at a node -/
structure ExpC (d : Own) (ks : F) : Prop where
  des : MayC 54 desT d ks
  fac : MayC 41 facT d ks
  lev : LevC d ks
  wit : WithC d ks
  exp : MayC 28 expT d ks
theorem expC (f : F) : f.All ExpC := F.each (fun d ks h => by
  have hdes := des_c d ks (h.imp_ fun _ _ h => h.des) (h.imp_ fun _ _ h => h.exp)
  have hfac := fac_c d ks hdes (h.imp_ fun _ _ h => h.des) (h.imp_ fun _ _ h => h.fac) (h.imp_ fun _ _ h => h.exp)
  have hlev := lev_c d ks hfac (h.imp_ fun _ _ h => h.wit)
  exact ⟨hdes, hfac, hlev, within_c d ks hlev, exp_c d ks hlev⟩) f
/-- tree's Level at any node -/
theorem Level_c (d : Own) (ks : F) : LevC d ks := (expC (.cons d ks .nil)).1.lev
theorem MayExpr_c (d : Own) (ks : F) : MayC 28 expT d ks := (expC (.cons d ks .nil)).1.exp
end Go.Proofs.Ytnihjkcniddepaa
