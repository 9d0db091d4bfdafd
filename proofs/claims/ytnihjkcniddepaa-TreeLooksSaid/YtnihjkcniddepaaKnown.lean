/- What is proved: the contract of the law's known rows. Conditions: the library's variable holds a number. -/
import Derived.Test.YtnihjkcniddepaaSize
namespace Go.Proofs.Ytnihjkcniddepaa
open Go.RowKit
theorem isL_nil (w : World) (A : Option Addr) : IsL w A 0 .nil := rfl
theorem isL1 {w : World} {g : Nat} {T : TypeId} {d0 : Own} {k0 : F} {a0 : Option Addr} {n0 c0 : Nat} (hb : Blk w g T #[.int .i64 d0.kind, .string d0.nm, .int .u32 d0.val, .bool d0.mark, .slice a0 n0 c0]) (h0 : IsN w d0 k0 a0 n0 c0) :
    IsL w (some ⟨g, 0, none⟩) 1 (.cons d0 k0 .nil) :=
  ⟨g, 0, a0, n0, c0, 0, rfl, rfl, h0.ok, h0.le, h0.most, hb.cell 0, hb.cell 1, hb.cell 2, hb.cell 3, hb.cell 4, h0.kids, rfl⟩
theorem isL2 {w : World} {g : Nat} {T : TypeId} {d0 d1 : Own} {k0 k1 : F} {a0 a1 : Option Addr} {n0 c0 n1 c1 : Nat}
    (hb : Blk w g T #[.int .i64 d0.kind, .string d0.nm, .int .u32 d0.val, .bool d0.mark, .slice a0 n0 c0, .int .i64 d1.kind, .string d1.nm, .int .u32 d1.val, .bool d1.mark, .slice a1 n1 c1]) (h0 : IsN w d0 k0 a0 n0 c0) (h1 : IsN w d1 k1 a1 n1 c1) :
    IsL w (some ⟨g, 0, none⟩) 2 (.cons d0 k0 (.cons d1 k1 .nil)) :=
  ⟨g, 0, a0, n0, c0, 1, rfl, rfl, h0.ok, h0.le, h0.most, hb.cell 0, hb.cell 1, hb.cell 2, hb.cell 3, hb.cell 4, h0.kids,
    g, 5, a1, n1, c1, 0, rfl, rfl, h1.ok, h1.le, h1.most, hb.cell 5, hb.cell 6, hb.cell 7, hb.cell 8, hb.cell 9, h1.kids, rfl⟩
def oneD : Own := ⟨25, ⟨#[]⟩, 1, false⟩
def prodD : Own := ⟨35, ⟨#[42]⟩, 0, false⟩
def sumD : Own := ⟨35, ⟨#[43]⟩, 0, false⟩
def prodK : F := .cons oneD .nil (.cons oneD .nil .nil)
def sumK : F := .cons oneD .nil (.cons prodD prodK .nil)
def wrongK : F := .cons sumD sumK (.cons oneD .nil .nil)
theorem k_sum : levT sumD sumK = 2 := by decide +kernel
theorem k_wrong : levT prodD wrongK = -1 := by decide +kernel
theorem k_size : sumK.size = 4 := by decide +kernel
theorem Blk.at_ (w : World) (g : Nat) (t : TypeId) (cs : Array Value) (hg : w.heap.size = g) : Blk (w.alloc (.cells cs t)) g t cs := by subst hg; exact Blk.new _ _ _
theorem blk5 {W W1 : World} {g : Nat} {a0 a1 a2 a3 a4 : Value} {T : TypeId} (hb : Blk W g T #[a0, a1, a2, a3, a4]) (hc : Chg NoB W W1) :
    W1.cell? ⟨g, 0, none⟩ = some a0 ∧ W1.cell? ⟨g, 1, none⟩ = some a1 ∧ W1.cell? ⟨g, 2, none⟩ = some a2 ∧ W1.cell? ⟨g, 3, none⟩ = some a3 ∧ W1.cell? ⟨g, 4, none⟩ = some a4 :=
  have hk := hb.chg hc id
  ⟨hk.cell 0, hk.cell 1, hk.cell 2, hk.cell 3, hk.cell 4⟩
theorem ownOk_lit (k : Int) (s : ByteArray) (v : Int) (m : Bool) (hk : 0 ≤ k ∧ k ≤ 100) (hs : s.size ≤ 100) (hv : 0 ≤ v ∧ v ≤ 100) : OwnOk ⟨k, s, v, m⟩ := by
  refine ⟨⟨?_, ?_⟩, ?_, ?_, ?_⟩
  · show _ ≤ k; omega
  · show k ≤ _; omega
  · show s.size ≤ maxLen; unfold maxLen; omega
  · show 0 ≤ v; omega
  · show v ≤ _; omega
set_option maxHeartbeats 1000000 in
theorem known_c (w : World) (hv : Var0 w) : Calls Try.prog 9 #[] w fun e w' => e = .returned (.bool true) ∧ Chg NoB w w' := by
  have Hv := Go.Lib.hid hv
  clear hv
  go_enter Try.func9, Try.ntmps9
  go_wp2_with fail
  generalize hW : ((((((w.alloc _).alloc _).alloc _).alloc _).alloc _).alloc _).alloc _ = W
  have hch : Chg NoB w W := by
    rw [← hW]
    exact (((((((Chg.refl _ _).alloc _).alloc _).alloc _).alloc _).alloc _).alloc _).alloc _
  have b1 : Blk W (w.heap.size + 1) 28 #[.int .i64 25, .string ⟨#[]⟩, .int .u32 1, .bool false, .slice none 0 0, .int .i64 25, .string ⟨#[]⟩, .int .u32 1, .bool false, .slice none 0 0] := by
    rw [← hW]
    exact (((((Blk.at_ _ _ _ _ (by simp)).alloc _).alloc _).alloc _).alloc _).alloc _
  have b3 : Blk W (w.heap.size + 1 + 1 + 1) 28 #[.int .i64 25, .string ⟨#[]⟩, .int .u32 1, .bool false, .slice none 0 0, .int .i64 35, .string ⟨#[42]⟩, .int .u32 0, .bool false, .slice (some ⟨w.heap.size + 1, 0, none⟩) 2 2] := by
    rw [← hW]
    exact (((Blk.at_ _ _ _ _ (by simp)).alloc _).alloc _).alloc _
  have b4 : Blk W (w.heap.size + 1 + 1 + 1 + 1) 28 #[.int .i64 35, .string ⟨#[43]⟩, .int .u32 0, .bool false, .slice (some ⟨w.heap.size + 1 + 1 + 1, 0, none⟩) 2 2] := by
    rw [← hW]
    exact ((Blk.at_ _ _ _ _ (by simp)).alloc _).alloc _
  have b5 : Blk W (w.heap.size + 1 + 1 + 1 + 1 + 1) 28 #[.int .i64 35, .string ⟨#[43]⟩, .int .u32 0, .bool false, .slice (some ⟨w.heap.size + 1 + 1 + 1, 0, none⟩) 2 2, .int .i64 25, .string ⟨#[]⟩, .int .u32 1, .bool false, .slice none 0 0] := by
    rw [← hW]
    exact (Blk.at_ _ _ _ _ (by simp)).alloc _
  have b6 : Blk W (w.heap.size + 1 + 1 + 1 + 1 + 1 + 1) 28 #[.int .i64 35, .string ⟨#[42]⟩, .int .u32 0, .bool false, .slice (some ⟨w.heap.size + 1 + 1 + 1 + 1 + 1, 0, none⟩) 2 2] := by
    rw [← hW]
    exact Blk.at_ _ _ _ _ (by simp)
  clear hW
  have m2 : 2 ≤ maxLen := by unfold maxLen; omega
  have n1 : IsN W oneD .nil none 0 0 := ⟨ownOk_lit _ _ _ _ (by decide) (by decide) (by decide), by omega, by omega, rfl⟩
  have nP : IsN W prodD prodK (some ⟨w.heap.size + 1, 0, none⟩) 2 2 := ⟨ownOk_lit _ _ _ _ (by decide) (by decide) (by decide), by omega, m2, isL2 (d0 := oneD) (d1 := oneD) b1 n1 n1⟩
  have nS : IsN W sumD sumK (some ⟨w.heap.size + 1 + 1 + 1, 0, none⟩) 2 2 := ⟨ownOk_lit _ _ _ _ (by decide) (by decide) (by decide), by omega, m2, isL2 (d0 := oneD) (d1 := prodD) b3 n1 nP⟩
  have nW : IsN W prodD wrongK (some ⟨w.heap.size + 1 + 1 + 1 + 1 + 1, 0, none⟩) 2 2 := ⟨ownOk_lit _ _ _ _ (by decide) (by decide) (by decide), by omega, m2, isL2 (d0 := sumD) (d1 := oneD) b5 nS n1⟩
  have HvW : Hid (∀ W1, Chg NoB W W1 → Var0 W1) := Go.Lib.hid fun W1 h => Hv.out.chg (hch.trans h)
  have H0 := Go.Lib.hid hch
  have NS := Go.Lib.hid nS
  have NW := Go.Lib.hid nW
  have B4 := Go.Lib.hid b4
  have B6 := Go.Lib.hid b6
  clear hch b1 b3 b4 b5 b6 n1 nP nS nW m2
  refine (Level_c sumD sumK _ 2 2 W (HvW.out W (Chg.refl _ _)) NS.out).mono ?_
  rw [k_sum]
  rintro e w1 ⟨rfl, h1⟩
  obtain ⟨c0, c1, c2, c3, c4⟩ := blk5 B4.out h1
  have H1 := Go.Lib.hid h1
  clear h1
  go_wp2_with fail
  refine (MayExpr_c sumD sumK _ 2 2 w1 (HvW.out _ H1.out) (NS.out.chg H1.out)).mono ?_
  rw [show expT sumD sumK = true from by unfold expT; rw [k_sum]; rfl]
  rintro e w2 ⟨rfl, h2⟩
  obtain ⟨c0, c1, c2, c3, c4⟩ := blk5 B4.out (H1.out.trans h2)
  have H2 := Go.Lib.hid (H1.out.trans h2)
  clear h2
  go_wp2_with fail
  refine (Size_c sumD sumK _ 2 2 w2 (NS.out.chg H2.out) (by rw [k_size]; omega)).mono ?_
  rw [k_size]
  rintro e w3 ⟨rfl, h3⟩
  obtain ⟨c0, c1, c2, c3, c4⟩ := blk5 B6.out (H2.out.trans h3)
  have H3 := Go.Lib.hid (H2.out.trans h3)
  clear h3
  go_wp2_with fail
  refine (Level_c prodD wrongK _ 2 2 w3 (HvW.out _ H3.out) (NW.out.chg H3.out)).mono ?_
  rw [k_wrong]
  rintro e w4 ⟨rfl, h4⟩
  go_wp2_with fail
  go_ret
  exact ⟨rfl, (H0.out.trans H3.out).trans h4⟩
end Go.Proofs.Ytnihjkcniddepaa
