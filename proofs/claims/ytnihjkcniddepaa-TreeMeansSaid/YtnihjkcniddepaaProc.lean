/- What is proved: the contract of tree's mayDecl at a procedure, out of the contracts at the nodes below, and at any node. Conditions: the library's variable holds a number. -/
import Derived.Test.YtnihjkcniddepaaDecl
import Derived.Test.YtnihjkcniddepaaAllocs
import Derived.Deep.RegionHeld3
namespace Go.Proofs.Ytnihjkcniddepaa
open Go.RowKit
structure KidAt (W : World) (b o : Nat) (d : Own) (ks : F) (kA : Option Addr) (kn kc : Nat) : Prop where
  e0 : W.cell? ⟨b, o, none⟩ = some (.int .i64 d.kind)
  e1 : W.cell? ⟨b, o + 1, none⟩ = some (.string d.nm)
  e2 : W.cell? ⟨b, o + 2, none⟩ = some (.int .u32 d.val)
  e3 : W.cell? ⟨b, o + 3, none⟩ = some (.bool d.mark)
  e4 : W.cell? ⟨b, o + 4, none⟩ = some (.slice kA kn kc)
  isN : IsN W d ks kA kn kc
theorem KidAt.chg {W W' : World} {b o : Nat} {d : Own} {ks : F} {kA : Option Addr} {kn kc : Nat} (h : KidAt W b o d ks kA kn kc) (hc : Chg NoB W W') : KidAt W' b o d ks kA kn kc :=
  ⟨hc.cell h.e0 id, hc.cell h.e1 id, hc.cell h.e2 id, hc.cell h.e3 id, hc.cell h.e4 id, h.isN.chg hc⟩
theorem IsL.kidAt {W : World} {f : F} {b o n k : Nat} (h : IsL W (some ⟨b, o, none⟩) n f) (hk : k < n) {d : Own} {ks r : F} (hd : f.drop k = .cons d ks r) : ∃ kA kn kc, KidAt W b (o + k * 5) d ks kA kn kc := by
  obtain ⟨b', o', d', ks', r', kA, kn, kc, hA, hd', ok, le, most, e0, e1, e2, e3, e4, hk'⟩ := h.at_ hk
  injection hA with hA
  injection hA with hb ho
  subst hb; subst ho
  rw [hd] at hd'
  injection hd' with h1 h2 h3
  subst h1; subst h2
  exact ⟨kA, kn, kc, e0, e1, e2, e3, e4, ok, le, most, hk'⟩
theorem IsL.base {W : World} {A : Option Addr} {n : Nat} {d : Own} {ks r : F} (h : IsL W A n (.cons d ks r)) : ∃ b o, A = some ⟨b, o, none⟩ := by
  obtain ⟨b, o, _, _, _, _, h, _⟩ := h
  exact ⟨b, o, h⟩
theorem Blk.five {W : World} {c : Nat} {T : TypeId} {v0 v1 v2 v3 v4 : Value} (h : Blk W c T #[v0, v1, v2, v3, v4]) : W.cell? ⟨c, 0, none⟩ = some v0 ∧ W.cell? ⟨c, 1, none⟩ = some v1 ∧ W.cell? ⟨c, 2, none⟩ = some v2 ∧ W.cell? ⟨c, 3, none⟩ = some v3 ∧ W.cell? ⟨c, 4, none⟩ = some v4 :=
  ⟨h.cell 0, h.cell 1, h.cell 2, h.cell 3, h.cell 4⟩
def VV (r0 r1 r2 r3 r4 : Array Value) : Nat → Array Value
  | 0 => r0
  | 1 => r1
  | 2 => r2
  | 3 => r3
  | _ => r4
theorem store5 {w : World} {b : Nat} {T : TypeId} {z0 z1 z2 z3 z4 : Value} (h : Blk w b T #[z0, z1, z2, z3, z4]) (v0 v1 v2 v3 v4 : Value) :
    Chg (fun q => q = b) w (((((w.setCell ⟨b, 0, none⟩ v0).setCell ⟨b, 1, none⟩ v1).setCell ⟨b, 2, none⟩ v2).setCell ⟨b, 3, none⟩ v3).setCell ⟨b, 4, none⟩ v4) ∧
      Blk (((((w.setCell ⟨b, 0, none⟩ v0).setCell ⟨b, 1, none⟩ v1).setCell ⟨b, 2, none⟩ v2).setCell ⟨b, 3, none⟩ v3).setCell ⟨b, 4, none⟩ v4) b T #[v0, v1, v2, v3, v4] :=
  ⟨by
    have c0 := (Chg.refl (fun q => q = b) w).setCell (p := ⟨b, 0, none⟩) (fun _ => rfl) v0
    have c1 := c0.setCell (p := ⟨b, 1, none⟩) (fun _ => rfl) v1
    have c2 := c1.setCell (p := ⟨b, 2, none⟩) (fun _ => rfl) v2
    have c3 := c2.setCell (p := ⟨b, 3, none⟩) (fun _ => rfl) v3
    exact c3.setCell (p := ⟨b, 4, none⟩) (fun _ => rfl) v4, ((((h.set_ 0 v0).set_ 1 v1).set_ 2 v2).set_ 3 v3).set_ 4 v4⟩
theorem run_store5 (a : Act) (w : World) (o : Oper) (p v : Operand) (ho : o.op = .store 28 p v) {b : Nat} {z0 z1 z2 z3 z4 : Value} {k : Int} {nm : ByteArray} {u : Int} {mk : Bool} {A : Option Addr} {n c : Nat} (h1 : a.eval p = ptr5 b) (h2 : a.eval v = .agg #[.int .i64 k, .string nm, .int .u32 u, .bool mk, .slice A n c])
    (hB : Blk w b 28 #[z0, z1, z2, z3, z4]) : (execOp a.eval o).run Try.prog w = .ok .skip (((((w.setCell ⟨b, 0, none⟩ (.int .i64 k)).setCell ⟨b, 1, none⟩ (.string nm)).setCell ⟨b, 2, none⟩ (.int .u32 u)).setCell ⟨b, 3, none⟩ (.bool mk)).setCell ⟨b, 4, none⟩ (.slice A n c)) := by
  have x0 := hB.cell 0
  have f0 := hB.frozen 0
  have B1 := hB.set_ 0 (.int .i64 k)
  have x1 := B1.cell 1
  have f1 := B1.frozen 1
  have B2 := B1.set_ 1 (.string nm)
  have x2 := B2.cell 2
  have f2 := B2.frozen 2
  have B3 := B2.set_ 2 (.int .u32 u)
  have x3 := B3.cell 3
  have f3 := B3.frozen 3
  have B4 := B3.set_ 3 (.bool mk)
  have x4 := B4.cell 4
  have f4 := B4.frozen 4
  simp only [List.setIfInBounds_toArray, List.set_cons_zero, List.set_cons_succ, List.getElem?_toArray, List.getElem?_cons_zero, List.getElem?_cons_succ] at x0 x1 x2 x3 x4
  cases o
  simp only at ho
  subst ho
  unfold ptr5 at h1
  generalize a.eval = ev at h1 h2
  go_simp
set_option maxHeartbeats 4000000 in
theorem dcl7_true (d : Own) (d0 : Own) (k0 : F) (d1 : Own) (k1 : F) (d2 : Own) (k2 : F) (d3 : Own) (k3 : F) (d4 : Own) (k4 : F) (kA : Option Addr) (kn kc : Nat) (w : World) (hv : Var0 w) (hN : IsN w d (.cons d0 k0 (.cons d1 k1 (.cons d2 k2 (.cons d3 k3 (.cons d4 k4 .nil))))) kA kn kc) (hkind : d.kind = 7) (hpar : k0.All (MayC 62 parT)) (hn1 : Hid (MayC 63 noneT d1 k1)) (hq1 : Hid (MayC 51 qualT d1 k1)) (hd2 : Hid (MayC 46 declsT d2 k2)) (hu2 : Hid (MayC 64 unmT d2 k2)) (hs3 : Hid (MayC 29 stmtsT d3 k3)) (hn4 : Hid (MayC 63 noneT d4 k4)) (he4 : Hid (MayC 28 expT d4 k4)) (his : isT d (F.len (.cons d0 k0 (.cons d1 k1 (.cons d2 k2 (.cons d3 k3 (.cons d4 k4 .nil)))))) d.kind pNMK (5) = true) :
    Calls Try.prog 57 #[nodeV d kA kn kc] w (fun e w' => e = .returned (.bool (declT d (.cons d0 k0 (.cons d1 k1 (.cons d2 k2 (.cons d3 k3 (.cons d4 k4 .nil))))))) ∧ Chg NoB w w') := by
  have hlen : kn = 5 := hN.kids.len
  obtain ⟨b0, o0, rfl⟩ := hN.kids.base
  obtain ⟨kA0, kn0, kc0, hk0⟩ := hN.kids.kidAt (k := 0) (by omega) rfl
  obtain ⟨kA1, kn1, kc1, hk1⟩ := hN.kids.kidAt (k := 1) (by omega) rfl
  obtain ⟨kA2, kn2, kc2, hk2⟩ := hN.kids.kidAt (k := 2) (by omega) rfl
  obtain ⟨kA3, kn3, kc3, hk3⟩ := hN.kids.kidAt (k := 3) (by omega) rfl
  obtain ⟨kA4, kn4, kc4, hk4⟩ := hN.kids.kidAt (k := 4) (by omega) rfl
  have hw0 : Chg NoB w (w.alloc (.cells #[.int .i64 d.kind, .string d.nm, .int .u32 d.val, .bool d.mark, .slice (some ⟨b0, o0, none⟩) kn kc] 28)) := (Chg.refl _ _).alloc _
  have h1 := is_c d hN.ok (some ⟨b0, o0, none⟩) kn kc (Nat.le_trans hN.le hN.most) d.kind pNMK (by decide) (5) (w.alloc (.cells #[.int .i64 d.kind, .string d.nm, .int .u32 d.val, .bool d.mark, .slice (some ⟨b0, o0, none⟩) kn kc] 28)) (hv.chg hw0)
  rw [show isT d kn d.kind pNMK (5) = true from hlen ▸ his] at h1
  unfold nodeV pNMK at h1
  have H1 := Go.Lib.hid h1
  have t4 : (d.kind == 4) = false := by simp [hkind]
  have t5 : (d.kind == 5) = false := by simp [hkind]
  have t6 : (d.kind == 6) = false := by simp [hkind]
  have t7 : (d.kind == 7) = true := by simp [hkind]
  have hL0 : kn0 = k0.len := hk0.isN.kids.len
  have Heq := Go.Lib.hid (show declT d (.cons d0 k0 (.cons d1 k1 (.cons d2 k2 (.cons d3 k3 (.cons d4 k4 .nil))))) = ((isT d0 kn0 8 pK (-1) && F.all parT k0) && ((noneT d1 k1 || qualT d1 k1) && (declsT d2 k2 && (unmT d2 k2 && (stmtsT d3 k3 && (noneT d4 k4 || expT d4 k4)))))) by rw [hL0]; show declM d _ _ _ = _; unfold declM; simp only [t4, t5, t6, t7, his, Bool.false_eq_true, if_false, if_true, Bool.true_and]; show ((isT d0 k0.len 8 pK (-1) && k0.atts2.all Att2.par) && _) = _; rw [F.all_att2]; rfl)
  have Hv : Hid (∀ W, Chg NoB (w.alloc (.cells #[.int .i64 d.kind, .string d.nm, .int .u32 d.val, .bool d.mark, .slice (some ⟨b0, o0, none⟩) kn kc] 28)) W → Var0 W) := Go.Lib.hid fun W hW => hv.chg (hw0.trans hW)
  have HK0 : Hid (∀ W, Chg NoB (w.alloc (.cells #[.int .i64 d.kind, .string d.nm, .int .u32 d.val, .bool d.mark, .slice (some ⟨b0, o0, none⟩) kn kc] 28)) W → KidAt W b0 (o0) d0 k0 kA0 kn0 kc0) := Go.Lib.hid fun W hW => hk0.chg (hw0.trans hW)
  have HK1 : Hid (∀ W, Chg NoB (w.alloc (.cells #[.int .i64 d.kind, .string d.nm, .int .u32 d.val, .bool d.mark, .slice (some ⟨b0, o0, none⟩) kn kc] 28)) W → KidAt W b0 (o0 + 5) d1 k1 kA1 kn1 kc1) := Go.Lib.hid fun W hW => hk1.chg (hw0.trans hW)
  have HK2 : Hid (∀ W, Chg NoB (w.alloc (.cells #[.int .i64 d.kind, .string d.nm, .int .u32 d.val, .bool d.mark, .slice (some ⟨b0, o0, none⟩) kn kc] 28)) W → KidAt W b0 (o0 + 10) d2 k2 kA2 kn2 kc2) := Go.Lib.hid fun W hW => hk2.chg (hw0.trans hW)
  have HK3 : Hid (∀ W, Chg NoB (w.alloc (.cells #[.int .i64 d.kind, .string d.nm, .int .u32 d.val, .bool d.mark, .slice (some ⟨b0, o0, none⟩) kn kc] 28)) W → KidAt W b0 (o0 + 15) d3 k3 kA3 kn3 kc3) := Go.Lib.hid fun W hW => hk3.chg (hw0.trans hW)
  have HK4 : Hid (∀ W, Chg NoB (w.alloc (.cells #[.int .i64 d.kind, .string d.nm, .int .u32 d.val, .bool d.mark, .slice (some ⟨b0, o0, none⟩) kn kc] 28)) W → KidAt W b0 (o0 + 20) d4 k4 kA4 kn4 kc4) := Go.Lib.hid fun W hW => hk4.chg (hw0.trans hW)
  have h8 : ∀ W, Chg NoB (w.alloc (.cells #[.int .i64 d.kind, .string d.nm, .int .u32 d.val, .bool d.mark, .slice (some ⟨b0, o0, none⟩) kn kc] 28)) W → Calls Try.prog 43 #[nodeV d0 kA0 kn0 kc0, .int .i64 8, .string pK, .int .i64 (-1)] W fun e w' => e = .returned (.bool (isT d0 kn0 8 pK (-1))) ∧ Chg NoB W w' := fun W hW => is_c d0 hk0.isN.ok kA0 kn0 kc0 (Nat.le_trans hk0.isN.le hk0.isN.most) 8 pK (by decide) (-1) W (Hv.out W hW)
  unfold nodeV pK at h8
  have H8 := Go.Lib.hid h8
  have HALL : Hid (∀ W, Chg NoB (w.alloc (.cells #[.int .i64 d.kind, .string d.nm, .int .u32 d.val, .bool d.mark, .slice (some ⟨b0, o0, none⟩) kn kc] 28)) W → Calls Try.prog 44 #[.slice kA0 kn0 kc0, .func (.func 62) #[] #[]] W fun e w' => e = .returned (.bool (F.all parT k0)) ∧ Chg NoB W w') := Go.Lib.hid fun W hW => all_c _ cf_par parT k0 hpar _ _ _ (Nat.le_trans hk0.isN.le hk0.isN.most) W (Hv.out W hW) (HK0.out W hW).isN.kids
  have hn1 := hn1.out
  unfold MayC at hn1
  have hn1 := Go.Lib.hid hn1
  have hq1 := hq1.out
  unfold MayC at hq1
  have hq1 := Go.Lib.hid hq1
  have hd2 := hd2.out
  unfold MayC at hd2
  have hd2 := Go.Lib.hid hd2
  have hu2 := hu2.out
  unfold MayC at hu2
  have hu2 := Go.Lib.hid hu2
  have hs3 := hs3.out
  unfold MayC at hs3
  have hs3 := Go.Lib.hid hs3
  have hn4 := hn4.out
  unfold MayC at hn4
  have hn4 := Go.Lib.hid hn4
  have he4 := he4.out
  unfold MayC at he4
  have he4 := Go.Lib.hid he4
  have H0 := Go.Lib.hid hw0
  clear h1 h8 his hkind hw0 hN hv hL0 hpar hk0 hk1 hk2 hk3 hk4
  subst hlen
  unfold pK at Heq
  generalize isT d0 kn0 8 ⟨#[75]⟩ (-1) = q8 at Heq H8
  generalize F.all parT k0 = q9 at Heq HALL
  unfold nodeV
  go_enter Try.func57, Try.ntmps57
  go_wp2_with fail
  refine H1.out.mono ?_
  rintro e w1 ⟨rfl, hc⟩
  obtain ⟨hb0, hb1, hb2, hb3, hb4⟩ := box5 hc
  have HC := Go.Lib.hid hc
  clear hc
  go_wp2_with fail
  have HS : Hid (∀ W, Chg NoB w1 W → W.cell? ⟨w.heap.size, 4, none⟩ = some (.slice (some ⟨b0, o0, none⟩) 5 kc) ∧ W.cell? ⟨b0, o0, none⟩ = some (Value.int .i64 d0.kind) ∧ W.cell? ⟨b0, o0 + 1, none⟩ = some (Value.string d0.nm) ∧ W.cell? ⟨b0, o0 + 2, none⟩ = some (Value.int .u32 d0.val) ∧ W.cell? ⟨b0, o0 + 3, none⟩ = some (Value.bool d0.mark) ∧ W.cell? ⟨b0, o0 + 4, none⟩ = some (Value.slice kA0 kn0 kc0) ∧ W.cell? ⟨b0, o0 + 5, none⟩ = some (Value.int .i64 d1.kind) ∧ W.cell? ⟨b0, o0 + 5 + 1, none⟩ = some (Value.string d1.nm) ∧ W.cell? ⟨b0, o0 + 5 + 2, none⟩ = some (Value.int .u32 d1.val) ∧ W.cell? ⟨b0, o0 + 5 + 3, none⟩ = some (Value.bool d1.mark) ∧ W.cell? ⟨b0, o0 + 5 + 4, none⟩ = some (Value.slice kA1 kn1 kc1) ∧ W.cell? ⟨b0, o0 + 10, none⟩ = some (Value.int .i64 d2.kind) ∧ W.cell? ⟨b0, o0 + 10 + 1, none⟩ = some (Value.string d2.nm) ∧ W.cell? ⟨b0, o0 + 10 + 2, none⟩ = some (Value.int .u32 d2.val) ∧ W.cell? ⟨b0, o0 + 10 + 3, none⟩ = some (Value.bool d2.mark) ∧ W.cell? ⟨b0, o0 + 10 + 4, none⟩ = some (Value.slice kA2 kn2 kc2) ∧ W.cell? ⟨b0, o0 + 15, none⟩ = some (Value.int .i64 d3.kind) ∧ W.cell? ⟨b0, o0 + 15 + 1, none⟩ = some (Value.string d3.nm) ∧ W.cell? ⟨b0, o0 + 15 + 2, none⟩ = some (Value.int .u32 d3.val) ∧ W.cell? ⟨b0, o0 + 15 + 3, none⟩ = some (Value.bool d3.mark) ∧ W.cell? ⟨b0, o0 + 15 + 4, none⟩ = some (Value.slice kA3 kn3 kc3) ∧ W.cell? ⟨b0, o0 + 20, none⟩ = some (Value.int .i64 d4.kind) ∧ W.cell? ⟨b0, o0 + 20 + 1, none⟩ = some (Value.string d4.nm) ∧ W.cell? ⟨b0, o0 + 20 + 2, none⟩ = some (Value.int .u32 d4.val) ∧ W.cell? ⟨b0, o0 + 20 + 3, none⟩ = some (Value.bool d4.mark) ∧ W.cell? ⟨b0, o0 + 20 + 4, none⟩ = some (Value.slice kA4 kn4 kc4)) := Go.Lib.hid fun W hW => by
    have hq := HC.out.trans hW
    have z := box5 hq
    have z0 := HK0.out W hq
    have z1 := HK1.out W hq
    have z2 := HK2.out W hq
    have z3 := HK3.out W hq
    have z4 := HK4.out W hq
    exact ⟨z.2.2.2.2, z0.e0, z0.e1, z0.e2, z0.e3, z0.e4, z1.e0, z1.e1, z1.e2, z1.e3, z1.e4, z2.e0, z2.e1, z2.e2, z2.e3, z2.e4, z3.e0, z3.e1, z3.e2, z3.e3, z3.e4, z4.e0, z4.e1, z4.e2, z4.e3, z4.e4⟩
  refine wp_region_held_drew (S := fun W => W.cell? ⟨w.heap.size, 4, none⟩ = some (.slice (some ⟨b0, o0, none⟩) 5 kc) ∧ W.cell? ⟨b0, o0, none⟩ = some (Value.int .i64 d0.kind) ∧ W.cell? ⟨b0, o0 + 1, none⟩ = some (Value.string d0.nm) ∧ W.cell? ⟨b0, o0 + 2, none⟩ = some (Value.int .u32 d0.val) ∧ W.cell? ⟨b0, o0 + 3, none⟩ = some (Value.bool d0.mark) ∧ W.cell? ⟨b0, o0 + 4, none⟩ = some (Value.slice kA0 kn0 kc0) ∧ W.cell? ⟨b0, o0 + 5, none⟩ = some (Value.int .i64 d1.kind) ∧ W.cell? ⟨b0, o0 + 5 + 1, none⟩ = some (Value.string d1.nm) ∧ W.cell? ⟨b0, o0 + 5 + 2, none⟩ = some (Value.int .u32 d1.val) ∧ W.cell? ⟨b0, o0 + 5 + 3, none⟩ = some (Value.bool d1.mark) ∧ W.cell? ⟨b0, o0 + 5 + 4, none⟩ = some (Value.slice kA1 kn1 kc1) ∧ W.cell? ⟨b0, o0 + 10, none⟩ = some (Value.int .i64 d2.kind) ∧ W.cell? ⟨b0, o0 + 10 + 1, none⟩ = some (Value.string d2.nm) ∧ W.cell? ⟨b0, o0 + 10 + 2, none⟩ = some (Value.int .u32 d2.val) ∧ W.cell? ⟨b0, o0 + 10 + 3, none⟩ = some (Value.bool d2.mark) ∧ W.cell? ⟨b0, o0 + 10 + 4, none⟩ = some (Value.slice kA2 kn2 kc2) ∧ W.cell? ⟨b0, o0 + 15, none⟩ = some (Value.int .i64 d3.kind) ∧ W.cell? ⟨b0, o0 + 15 + 1, none⟩ = some (Value.string d3.nm) ∧ W.cell? ⟨b0, o0 + 15 + 2, none⟩ = some (Value.int .u32 d3.val) ∧ W.cell? ⟨b0, o0 + 15 + 3, none⟩ = some (Value.bool d3.mark) ∧ W.cell? ⟨b0, o0 + 15 + 4, none⟩ = some (Value.slice kA3 kn3 kc3) ∧ W.cell? ⟨b0, o0 + 20, none⟩ = some (Value.int .i64 d4.kind) ∧ W.cell? ⟨b0, o0 + 20 + 1, none⟩ = some (Value.string d4.nm) ∧ W.cell? ⟨b0, o0 + 20 + 2, none⟩ = some (Value.int .u32 d4.val) ∧ W.cell? ⟨b0, o0 + 20 + 3, none⟩ = some (Value.bool d4.mark) ∧ W.cell? ⟨b0, o0 + 20 + 4, none⟩ = some (Value.slice kA4 kn4 kc4)) (by kernel_rfl) (HS.out _ (Chg.refl _ _).drew) (fun hHeld => ?_)
  refine' wpAnyH_take (i := 0) (oi := _) (v := .pointer (some ⟨w.heap.size, 4, none⟩)) ?hi0 (by kernel_rfl) (by kernel_rfl) (by kernel_rfl) ?hq0 (Or.inl ⟨?hw0, ?hy0⟩) hHeld ?_
  case hi0 => (simp only [List.getElem?_toArray, List.getElem?_cons_zero, List.getElem?_cons_succ]; rfl)
  case hq0 => exact fun _ _ _ h => h
  case hw0 => rfl
  case hy0 => (intro W hSw; (try dsimp only at hSw); go_split_ands; go_simp)
  try simp only [Act.put, List.setIfInBounds_toArray, List.set_cons_zero, List.set_cons_succ]
  refine' wpAnyH_take (i := 1) (oi := _) (v := .slice (some ⟨b0, o0, none⟩) 5 kc) ?hi1 (by kernel_rfl) (by kernel_rfl) (by kernel_rfl) ?hq1 (Or.inl ⟨?hw1, ?hy1⟩) hHeld ?_
  case hi1 => (simp only [List.getElem?_toArray, List.getElem?_cons_zero, List.getElem?_cons_succ]; rfl)
  case hq1 => exact fun _ _ _ h => h
  case hw1 => rfl
  case hy1 => (intro W hSw; (try dsimp only at hSw); go_split_ands; go_simp)
  try simp only [Act.put, List.setIfInBounds_toArray, List.set_cons_zero, List.set_cons_succ]
  refine' wpAnyH_take (i := 2) (oi := _) (v := .pointer (some ⟨b0, o0, none⟩)) ?hi2 (by kernel_rfl) (by kernel_rfl) (by kernel_rfl) ?hq2 (Or.inl ⟨?hw2, ?hy2⟩) hHeld ?_
  case hi2 => (simp only [List.getElem?_toArray, List.getElem?_cons_zero, List.getElem?_cons_succ]; rfl)
  case hq2 => exact fun _ _ _ h => h
  case hw2 => rfl
  case hy2 => (intro W hSw; (try dsimp only at hSw); go_split_ands; go_simp)
  try simp only [Act.put, List.setIfInBounds_toArray, List.set_cons_zero, List.set_cons_succ]
  refine' wpAnyH_take (i := 3) (oi := _) (v := .agg #[Value.int .i64 d0.kind, Value.string d0.nm, Value.int .u32 d0.val, Value.bool d0.mark, Value.slice kA0 kn0 kc0]) ?hi3 (by kernel_rfl) (by kernel_rfl) (by kernel_rfl) ?hq3 (Or.inl ⟨?hw3, ?hy3⟩) hHeld ?_
  case hi3 => (simp only [List.getElem?_toArray, List.getElem?_cons_zero, List.getElem?_cons_succ]; rfl)
  case hq3 => exact fun _ _ _ h => h
  case hw3 => rfl
  case hy3 => (intro W hSw; (try dsimp only at hSw); go_split_ands; go_simp)
  try simp only [Act.put, List.setIfInBounds_toArray, List.set_cons_zero, List.set_cons_succ]
  refine' wpAnyH_take (i := 4) (oi := _) (v := .pointer (some ⟨w.heap.size, 4, none⟩)) ?hi4 (by kernel_rfl) (by kernel_rfl) (by kernel_rfl) ?hq4 (Or.inl ⟨?hw4, ?hy4⟩) hHeld ?_
  case hi4 => (simp only [List.getElem?_toArray, List.getElem?_cons_zero, List.getElem?_cons_succ]; rfl)
  case hq4 => exact fun _ _ _ h => h
  case hw4 => rfl
  case hy4 => (intro W hSw; (try dsimp only at hSw); go_split_ands; go_simp)
  try simp only [Act.put, List.setIfInBounds_toArray, List.set_cons_zero, List.set_cons_succ]
  refine' wpAnyH_take (i := 5) (oi := _) (v := .slice (some ⟨b0, o0, none⟩) 5 kc) ?hi5 (by kernel_rfl) (by kernel_rfl) (by kernel_rfl) ?hq5 (Or.inl ⟨?hw5, ?hy5⟩) hHeld ?_
  case hi5 => (simp only [List.getElem?_toArray, List.getElem?_cons_zero, List.getElem?_cons_succ]; rfl)
  case hq5 => exact fun _ _ _ h => h
  case hw5 => rfl
  case hy5 => (intro W hSw; (try dsimp only at hSw); go_split_ands; go_simp)
  try simp only [Act.put, List.setIfInBounds_toArray, List.set_cons_zero, List.set_cons_succ]
  refine' wpAnyH_take (i := 6) (oi := _) (v := .pointer (some ⟨b0, o0 + 5, none⟩)) ?hi6 (by kernel_rfl) (by kernel_rfl) (by kernel_rfl) ?hq6 (Or.inl ⟨?hw6, ?hy6⟩) hHeld ?_
  case hi6 => (simp only [List.getElem?_toArray, List.getElem?_cons_zero, List.getElem?_cons_succ]; rfl)
  case hq6 => exact fun _ _ _ h => h
  case hw6 => rfl
  case hy6 => (intro W hSw; (try dsimp only at hSw); go_split_ands; go_simp)
  try simp only [Act.put, List.setIfInBounds_toArray, List.set_cons_zero, List.set_cons_succ]
  refine' wpAnyH_take (i := 7) (oi := _) (v := .agg #[Value.int .i64 d1.kind, Value.string d1.nm, Value.int .u32 d1.val, Value.bool d1.mark, Value.slice kA1 kn1 kc1]) ?hi7 (by kernel_rfl) (by kernel_rfl) (by kernel_rfl) ?hq7 (Or.inl ⟨?hw7, ?hy7⟩) hHeld ?_
  case hi7 => (simp only [List.getElem?_toArray, List.getElem?_cons_zero, List.getElem?_cons_succ]; rfl)
  case hq7 => exact fun _ _ _ h => h
  case hw7 => rfl
  case hy7 => (intro W hSw; (try dsimp only at hSw); go_split_ands; go_simp)
  try simp only [Act.put, List.setIfInBounds_toArray, List.set_cons_zero, List.set_cons_succ]
  refine' wpAnyH_take (i := 8) (oi := _) (v := .pointer (some ⟨w.heap.size, 4, none⟩)) ?hi8 (by kernel_rfl) (by kernel_rfl) (by kernel_rfl) ?hq8 (Or.inl ⟨?hw8, ?hy8⟩) hHeld ?_
  case hi8 => (simp only [List.getElem?_toArray, List.getElem?_cons_zero, List.getElem?_cons_succ]; rfl)
  case hq8 => exact fun _ _ _ h => h
  case hw8 => rfl
  case hy8 => (intro W hSw; (try dsimp only at hSw); go_split_ands; go_simp)
  try simp only [Act.put, List.setIfInBounds_toArray, List.set_cons_zero, List.set_cons_succ]
  refine' wpAnyH_take (i := 9) (oi := _) (v := .slice (some ⟨b0, o0, none⟩) 5 kc) ?hi9 (by kernel_rfl) (by kernel_rfl) (by kernel_rfl) ?hq9 (Or.inl ⟨?hw9, ?hy9⟩) hHeld ?_
  case hi9 => (simp only [List.getElem?_toArray, List.getElem?_cons_zero, List.getElem?_cons_succ]; rfl)
  case hq9 => exact fun _ _ _ h => h
  case hw9 => rfl
  case hy9 => (intro W hSw; (try dsimp only at hSw); go_split_ands; go_simp)
  try simp only [Act.put, List.setIfInBounds_toArray, List.set_cons_zero, List.set_cons_succ]
  refine' wpAnyH_take (i := 10) (oi := _) (v := .pointer (some ⟨b0, o0 + 10, none⟩)) ?hi10 (by kernel_rfl) (by kernel_rfl) (by kernel_rfl) ?hq10 (Or.inl ⟨?hw10, ?hy10⟩) hHeld ?_
  case hi10 => (simp only [List.getElem?_toArray, List.getElem?_cons_zero, List.getElem?_cons_succ]; rfl)
  case hq10 => exact fun _ _ _ h => h
  case hw10 => rfl
  case hy10 => (intro W hSw; (try dsimp only at hSw); go_split_ands; go_simp)
  try simp only [Act.put, List.setIfInBounds_toArray, List.set_cons_zero, List.set_cons_succ]
  refine' wpAnyH_take (i := 11) (oi := _) (v := .agg #[Value.int .i64 d2.kind, Value.string d2.nm, Value.int .u32 d2.val, Value.bool d2.mark, Value.slice kA2 kn2 kc2]) ?hi11 (by kernel_rfl) (by kernel_rfl) (by kernel_rfl) ?hq11 (Or.inl ⟨?hw11, ?hy11⟩) hHeld ?_
  case hi11 => (simp only [List.getElem?_toArray, List.getElem?_cons_zero, List.getElem?_cons_succ]; rfl)
  case hq11 => exact fun _ _ _ h => h
  case hw11 => rfl
  case hy11 => (intro W hSw; (try dsimp only at hSw); go_split_ands; go_simp)
  try simp only [Act.put, List.setIfInBounds_toArray, List.set_cons_zero, List.set_cons_succ]
  refine' wpAnyH_take (i := 12) (oi := _) (v := .pointer (some ⟨w.heap.size, 4, none⟩)) ?hi12 (by kernel_rfl) (by kernel_rfl) (by kernel_rfl) ?hq12 (Or.inl ⟨?hw12, ?hy12⟩) hHeld ?_
  case hi12 => (simp only [List.getElem?_toArray, List.getElem?_cons_zero, List.getElem?_cons_succ]; rfl)
  case hq12 => exact fun _ _ _ h => h
  case hw12 => rfl
  case hy12 => (intro W hSw; (try dsimp only at hSw); go_split_ands; go_simp)
  try simp only [Act.put, List.setIfInBounds_toArray, List.set_cons_zero, List.set_cons_succ]
  refine' wpAnyH_take (i := 13) (oi := _) (v := .slice (some ⟨b0, o0, none⟩) 5 kc) ?hi13 (by kernel_rfl) (by kernel_rfl) (by kernel_rfl) ?hq13 (Or.inl ⟨?hw13, ?hy13⟩) hHeld ?_
  case hi13 => (simp only [List.getElem?_toArray, List.getElem?_cons_zero, List.getElem?_cons_succ]; rfl)
  case hq13 => exact fun _ _ _ h => h
  case hw13 => rfl
  case hy13 => (intro W hSw; (try dsimp only at hSw); go_split_ands; go_simp)
  try simp only [Act.put, List.setIfInBounds_toArray, List.set_cons_zero, List.set_cons_succ]
  refine' wpAnyH_take (i := 14) (oi := _) (v := .pointer (some ⟨b0, o0 + 15, none⟩)) ?hi14 (by kernel_rfl) (by kernel_rfl) (by kernel_rfl) ?hq14 (Or.inl ⟨?hw14, ?hy14⟩) hHeld ?_
  case hi14 => (simp only [List.getElem?_toArray, List.getElem?_cons_zero, List.getElem?_cons_succ]; rfl)
  case hq14 => exact fun _ _ _ h => h
  case hw14 => rfl
  case hy14 => (intro W hSw; (try dsimp only at hSw); go_split_ands; go_simp)
  try simp only [Act.put, List.setIfInBounds_toArray, List.set_cons_zero, List.set_cons_succ]
  refine' wpAnyH_take (i := 15) (oi := _) (v := .agg #[Value.int .i64 d3.kind, Value.string d3.nm, Value.int .u32 d3.val, Value.bool d3.mark, Value.slice kA3 kn3 kc3]) ?hi15 (by kernel_rfl) (by kernel_rfl) (by kernel_rfl) ?hq15 (Or.inl ⟨?hw15, ?hy15⟩) hHeld ?_
  case hi15 => (simp only [List.getElem?_toArray, List.getElem?_cons_zero, List.getElem?_cons_succ]; rfl)
  case hq15 => exact fun _ _ _ h => h
  case hw15 => rfl
  case hy15 => (intro W hSw; (try dsimp only at hSw); go_split_ands; go_simp)
  try simp only [Act.put, List.setIfInBounds_toArray, List.set_cons_zero, List.set_cons_succ]
  refine' wpAnyH_take (i := 16) (oi := _) (v := .pointer (some ⟨w.heap.size, 4, none⟩)) ?hi16 (by kernel_rfl) (by kernel_rfl) (by kernel_rfl) ?hq16 (Or.inl ⟨?hw16, ?hy16⟩) hHeld ?_
  case hi16 => (simp only [List.getElem?_toArray, List.getElem?_cons_zero, List.getElem?_cons_succ]; rfl)
  case hq16 => exact fun _ _ _ h => h
  case hw16 => rfl
  case hy16 => (intro W hSw; (try dsimp only at hSw); go_split_ands; go_simp)
  try simp only [Act.put, List.setIfInBounds_toArray, List.set_cons_zero, List.set_cons_succ]
  refine' wpAnyH_take (i := 17) (oi := _) (v := .slice (some ⟨b0, o0, none⟩) 5 kc) ?hi17 (by kernel_rfl) (by kernel_rfl) (by kernel_rfl) ?hq17 (Or.inl ⟨?hw17, ?hy17⟩) hHeld ?_
  case hi17 => (simp only [List.getElem?_toArray, List.getElem?_cons_zero, List.getElem?_cons_succ]; rfl)
  case hq17 => exact fun _ _ _ h => h
  case hw17 => rfl
  case hy17 => (intro W hSw; (try dsimp only at hSw); go_split_ands; go_simp)
  try simp only [Act.put, List.setIfInBounds_toArray, List.set_cons_zero, List.set_cons_succ]
  refine' wpAnyH_take (i := 18) (oi := _) (v := .pointer (some ⟨b0, o0 + 20, none⟩)) ?hi18 (by kernel_rfl) (by kernel_rfl) (by kernel_rfl) ?hq18 (Or.inl ⟨?hw18, ?hy18⟩) hHeld ?_
  case hi18 => (simp only [List.getElem?_toArray, List.getElem?_cons_zero, List.getElem?_cons_succ]; rfl)
  case hq18 => exact fun _ _ _ h => h
  case hw18 => rfl
  case hy18 => (intro W hSw; (try dsimp only at hSw); go_split_ands; go_simp)
  try simp only [Act.put, List.setIfInBounds_toArray, List.set_cons_zero, List.set_cons_succ]
  refine' wpAnyH_take (i := 19) (oi := _) (v := .agg #[Value.int .i64 d4.kind, Value.string d4.nm, Value.int .u32 d4.val, Value.bool d4.mark, Value.slice kA4 kn4 kc4]) ?hi19 (by kernel_rfl) (by kernel_rfl) (by kernel_rfl) ?hq19 (Or.inl ⟨?hw19, ?hy19⟩) hHeld ?_
  case hi19 => (simp only [List.getElem?_toArray, List.getElem?_cons_zero, List.getElem?_cons_succ]; rfl)
  case hq19 => exact fun _ _ _ h => h
  case hw19 => rfl
  case hy19 => (intro W hSw; (try dsimp only at hSw); go_split_ands; go_simp)
  try simp only [Act.put, List.setIfInBounds_toArray, List.set_cons_zero, List.set_cons_succ]
  change wpAnyH _ _ _ _ _ 10 (LL (fun _ => false) 0) _ _
  refine five_allocs 28 #[.int .i64 0, .string .empty, .int .u32 0, .bool false, .slice none 0 0] (VV #[Value.int .i64 d0.kind, Value.string d0.nm, Value.int .u32 d0.val, Value.bool d0.mark, Value.slice kA0 kn0 kc0] #[Value.int .i64 d1.kind, Value.string d1.nm, Value.int .u32 d1.val, Value.bool d1.mark, Value.slice kA1 kn1 kc1] #[Value.int .i64 d2.kind, Value.string d2.nm, Value.int .u32 d2.val, Value.bool d2.mark, Value.slice kA2 kn2 kc2] #[Value.int .i64 d3.kind, Value.string d3.nm, Value.int .u32 d3.val, Value.bool d3.mark, Value.slice kA3 kn3 kc3] #[Value.int .i64 d4.kind, Value.string d4.nm, Value.int .u32 d4.val, Value.bool d4.mark, Value.slice kA4 kn4 kc4]) _ _ (Nat.le_of_ble_eq_true rfl) ?hal ?hst (by kernel_rfl) (fun W hW => HS.out W ((Chg.refl _ _).drew.trans hW)) ?hQ
  case hal =>
    intro i hi
    match i, hi with
    | 0, _ => exact ⟨_, rfl, rfl, rfl, fun a w => by kernel_rfl⟩
    | 1, _ => exact ⟨_, rfl, rfl, rfl, fun a w => by kernel_rfl⟩
    | 2, _ => exact ⟨_, rfl, rfl, rfl, fun a w => by kernel_rfl⟩
    | 3, _ => exact ⟨_, rfl, rfl, rfl, fun a w => by kernel_rfl⟩
    | 4, _ => exact ⟨_, rfl, rfl, rfl, fun a w => by kernel_rfl⟩
  case hst =>
    intro i hi
    match i, hi with
    | 0, _ => exact ⟨_, rfl, rfl, rfl, fun a w b h1 h2 hB => ⟨_, run_store5 a w _ (.tmp 3) (.tmp 57) rfl h1 h2 hB, store5 hB _ _ _ _ _⟩⟩
    | 1, _ => exact ⟨_, rfl, rfl, rfl, fun a w b h1 h2 hB => ⟨_, run_store5 a w _ (.tmp 4) (.tmp 61) rfl h1 h2 hB, store5 hB _ _ _ _ _⟩⟩
    | 2, _ => exact ⟨_, rfl, rfl, rfl, fun a w b h1 h2 hB => ⟨_, run_store5 a w _ (.tmp 5) (.tmp 65) rfl h1 h2 hB, store5 hB _ _ _ _ _⟩⟩
    | 3, _ => exact ⟨_, rfl, rfl, rfl, fun a w b h1 h2 hB => ⟨_, run_store5 a w _ (.tmp 6) (.tmp 69) rfl h1 h2 hB, store5 hB _ _ _ _ _⟩⟩
    | 4, _ => exact ⟨_, rfl, rfl, rfl, fun a w b h1 h2 hB => ⟨_, run_store5 a w _ (.tmp 7) (.tmp 73) rfl h1 h2 hB, store5 hB _ _ _ _ _⟩⟩
  intro c0 c1 c2 c3 c4 W hW B0 B1 B2 B3 B4
  simp only [ptr5, List.setIfInBounds_toArray, List.set_cons_zero, List.set_cons_succ]
  clear HS hHeld hb0 hb1 hb2 hb3 hb4
  have HC := Go.Lib.hid (HC.out.trans ((Chg.refl _ _).drew.trans hW))
  have HX0 : Hid (∀ W2, Chg NoB W W2 → W2.cell? ⟨c0, 0, none⟩ = some (Value.int .i64 d0.kind) ∧ W2.cell? ⟨c0, 1, none⟩ = some (Value.string d0.nm) ∧ W2.cell? ⟨c0, 2, none⟩ = some (Value.int .u32 d0.val) ∧ W2.cell? ⟨c0, 3, none⟩ = some (Value.bool d0.mark) ∧ W2.cell? ⟨c0, 4, none⟩ = some (Value.slice kA0 kn0 kc0)) := Go.Lib.hid fun W2 h2 => (B0.chg h2 id).five
  have HX1 : Hid (∀ W2, Chg NoB W W2 → W2.cell? ⟨c1, 0, none⟩ = some (Value.int .i64 d1.kind) ∧ W2.cell? ⟨c1, 1, none⟩ = some (Value.string d1.nm) ∧ W2.cell? ⟨c1, 2, none⟩ = some (Value.int .u32 d1.val) ∧ W2.cell? ⟨c1, 3, none⟩ = some (Value.bool d1.mark) ∧ W2.cell? ⟨c1, 4, none⟩ = some (Value.slice kA1 kn1 kc1)) := Go.Lib.hid fun W2 h2 => (B1.chg h2 id).five
  have HX2 : Hid (∀ W2, Chg NoB W W2 → W2.cell? ⟨c2, 0, none⟩ = some (Value.int .i64 d2.kind) ∧ W2.cell? ⟨c2, 1, none⟩ = some (Value.string d2.nm) ∧ W2.cell? ⟨c2, 2, none⟩ = some (Value.int .u32 d2.val) ∧ W2.cell? ⟨c2, 3, none⟩ = some (Value.bool d2.mark) ∧ W2.cell? ⟨c2, 4, none⟩ = some (Value.slice kA2 kn2 kc2)) := Go.Lib.hid fun W2 h2 => (B2.chg h2 id).five
  have HX3 : Hid (∀ W2, Chg NoB W W2 → W2.cell? ⟨c3, 0, none⟩ = some (Value.int .i64 d3.kind) ∧ W2.cell? ⟨c3, 1, none⟩ = some (Value.string d3.nm) ∧ W2.cell? ⟨c3, 2, none⟩ = some (Value.int .u32 d3.val) ∧ W2.cell? ⟨c3, 3, none⟩ = some (Value.bool d3.mark) ∧ W2.cell? ⟨c3, 4, none⟩ = some (Value.slice kA3 kn3 kc3)) := Go.Lib.hid fun W2 h2 => (B3.chg h2 id).five
  have HX4 : Hid (∀ W2, Chg NoB W W2 → W2.cell? ⟨c4, 0, none⟩ = some (Value.int .i64 d4.kind) ∧ W2.cell? ⟨c4, 1, none⟩ = some (Value.string d4.nm) ∧ W2.cell? ⟨c4, 2, none⟩ = some (Value.int .u32 d4.val) ∧ W2.cell? ⟨c4, 3, none⟩ = some (Value.bool d4.mark) ∧ W2.cell? ⟨c4, 4, none⟩ = some (Value.slice kA4 kn4 kc4)) := Go.Lib.hid fun W2 h2 => (B4.chg h2 id).five
  have HW := Go.Lib.hid (Chg.refl NoB W)
  obtain ⟨x00, x01, x02, x03, x04⟩ := HX0.out _ HW.out
  obtain ⟨x10, x11, x12, x13, x14⟩ := HX1.out _ HW.out
  obtain ⟨x20, x21, x22, x23, x24⟩ := HX2.out _ HW.out
  obtain ⟨x30, x31, x32, x33, x34⟩ := HX3.out _ HW.out
  obtain ⟨x40, x41, x42, x43, x44⟩ := HX4.out _ HW.out
  clear B0 B1 B2 B3 B4 hW
  go_wp2_with (first
    | (go_at_call 43
       with_reducible refine (H8.out _ HC.out).mono ?_
       rintro e w2 ⟨rfl, hc⟩
       have HC := Go.Lib.hid (HC.out.trans hc)
       have HW := Go.Lib.hid (HW.out.trans hc)
       clear x00 x01 x02 x03 x04 x10 x11 x12 x13 x14 x20 x21 x22 x23 x24 x30 x31 x32 x33 x34 x40 x41 x42 x43 x44
       obtain ⟨x00, x01, x02, x03, x04⟩ := HX0.out _ HW.out
       obtain ⟨x10, x11, x12, x13, x14⟩ := HX1.out _ HW.out
       obtain ⟨x20, x21, x22, x23, x24⟩ := HX2.out _ HW.out
       obtain ⟨x30, x31, x32, x33, x34⟩ := HX3.out _ HW.out
       obtain ⟨x40, x41, x42, x43, x44⟩ := HX4.out _ HW.out
       clear hc)
    | (go_at_call 44
       with_reducible refine (HALL.out _ HC.out).mono ?_
       rintro e w2 ⟨rfl, hc⟩
       have HC := Go.Lib.hid (HC.out.trans hc)
       have HW := Go.Lib.hid (HW.out.trans hc)
       clear x00 x01 x02 x03 x04 x10 x11 x12 x13 x14 x20 x21 x22 x23 x24 x30 x31 x32 x33 x34 x40 x41 x42 x43 x44
       obtain ⟨x00, x01, x02, x03, x04⟩ := HX0.out _ HW.out
       obtain ⟨x10, x11, x12, x13, x14⟩ := HX1.out _ HW.out
       obtain ⟨x20, x21, x22, x23, x24⟩ := HX2.out _ HW.out
       obtain ⟨x30, x31, x32, x33, x34⟩ := HX3.out _ HW.out
       obtain ⟨x40, x41, x42, x43, x44⟩ := HX4.out _ HW.out
       clear hc)
    | (go_at_call 63
       with_reducible refine (hn1.out kA1 kn1 kc1 _ (Hv.out _ HC.out) (HK1.out _ HC.out).isN).mono ?_
       rintro e w2 ⟨rfl, hc⟩
       have HC := Go.Lib.hid (HC.out.trans hc)
       have HW := Go.Lib.hid (HW.out.trans hc)
       clear x00 x01 x02 x03 x04 x10 x11 x12 x13 x14 x20 x21 x22 x23 x24 x30 x31 x32 x33 x34 x40 x41 x42 x43 x44
       obtain ⟨x00, x01, x02, x03, x04⟩ := HX0.out _ HW.out
       obtain ⟨x10, x11, x12, x13, x14⟩ := HX1.out _ HW.out
       obtain ⟨x20, x21, x22, x23, x24⟩ := HX2.out _ HW.out
       obtain ⟨x30, x31, x32, x33, x34⟩ := HX3.out _ HW.out
       obtain ⟨x40, x41, x42, x43, x44⟩ := HX4.out _ HW.out
       clear hc)
    | (go_at_call 51
       with_reducible refine (hq1.out kA1 kn1 kc1 _ (Hv.out _ HC.out) (HK1.out _ HC.out).isN).mono ?_
       rintro e w2 ⟨rfl, hc⟩
       have HC := Go.Lib.hid (HC.out.trans hc)
       have HW := Go.Lib.hid (HW.out.trans hc)
       clear x00 x01 x02 x03 x04 x10 x11 x12 x13 x14 x20 x21 x22 x23 x24 x30 x31 x32 x33 x34 x40 x41 x42 x43 x44
       obtain ⟨x00, x01, x02, x03, x04⟩ := HX0.out _ HW.out
       obtain ⟨x10, x11, x12, x13, x14⟩ := HX1.out _ HW.out
       obtain ⟨x20, x21, x22, x23, x24⟩ := HX2.out _ HW.out
       obtain ⟨x30, x31, x32, x33, x34⟩ := HX3.out _ HW.out
       obtain ⟨x40, x41, x42, x43, x44⟩ := HX4.out _ HW.out
       clear hc)
    | (go_at_call 46
       with_reducible refine (hd2.out kA2 kn2 kc2 _ (Hv.out _ HC.out) (HK2.out _ HC.out).isN).mono ?_
       rintro e w2 ⟨rfl, hc⟩
       have HC := Go.Lib.hid (HC.out.trans hc)
       have HW := Go.Lib.hid (HW.out.trans hc)
       clear x00 x01 x02 x03 x04 x10 x11 x12 x13 x14 x20 x21 x22 x23 x24 x30 x31 x32 x33 x34 x40 x41 x42 x43 x44
       obtain ⟨x00, x01, x02, x03, x04⟩ := HX0.out _ HW.out
       obtain ⟨x10, x11, x12, x13, x14⟩ := HX1.out _ HW.out
       obtain ⟨x20, x21, x22, x23, x24⟩ := HX2.out _ HW.out
       obtain ⟨x30, x31, x32, x33, x34⟩ := HX3.out _ HW.out
       obtain ⟨x40, x41, x42, x43, x44⟩ := HX4.out _ HW.out
       clear hc)
    | (go_at_call 64
       with_reducible refine (hu2.out kA2 kn2 kc2 _ (Hv.out _ HC.out) (HK2.out _ HC.out).isN).mono ?_
       rintro e w2 ⟨rfl, hc⟩
       have HC := Go.Lib.hid (HC.out.trans hc)
       have HW := Go.Lib.hid (HW.out.trans hc)
       clear x00 x01 x02 x03 x04 x10 x11 x12 x13 x14 x20 x21 x22 x23 x24 x30 x31 x32 x33 x34 x40 x41 x42 x43 x44
       obtain ⟨x00, x01, x02, x03, x04⟩ := HX0.out _ HW.out
       obtain ⟨x10, x11, x12, x13, x14⟩ := HX1.out _ HW.out
       obtain ⟨x20, x21, x22, x23, x24⟩ := HX2.out _ HW.out
       obtain ⟨x30, x31, x32, x33, x34⟩ := HX3.out _ HW.out
       obtain ⟨x40, x41, x42, x43, x44⟩ := HX4.out _ HW.out
       clear hc)
    | (go_at_call 29
       with_reducible refine (hs3.out kA3 kn3 kc3 _ (Hv.out _ HC.out) (HK3.out _ HC.out).isN).mono ?_
       rintro e w2 ⟨rfl, hc⟩
       have HC := Go.Lib.hid (HC.out.trans hc)
       have HW := Go.Lib.hid (HW.out.trans hc)
       clear x00 x01 x02 x03 x04 x10 x11 x12 x13 x14 x20 x21 x22 x23 x24 x30 x31 x32 x33 x34 x40 x41 x42 x43 x44
       obtain ⟨x00, x01, x02, x03, x04⟩ := HX0.out _ HW.out
       obtain ⟨x10, x11, x12, x13, x14⟩ := HX1.out _ HW.out
       obtain ⟨x20, x21, x22, x23, x24⟩ := HX2.out _ HW.out
       obtain ⟨x30, x31, x32, x33, x34⟩ := HX3.out _ HW.out
       obtain ⟨x40, x41, x42, x43, x44⟩ := HX4.out _ HW.out
       clear hc)
    | (go_at_call 63
       with_reducible refine (hn4.out kA4 kn4 kc4 _ (Hv.out _ HC.out) (HK4.out _ HC.out).isN).mono ?_
       rintro e w2 ⟨rfl, hc⟩
       have HC := Go.Lib.hid (HC.out.trans hc)
       have HW := Go.Lib.hid (HW.out.trans hc)
       clear x00 x01 x02 x03 x04 x10 x11 x12 x13 x14 x20 x21 x22 x23 x24 x30 x31 x32 x33 x34 x40 x41 x42 x43 x44
       obtain ⟨x00, x01, x02, x03, x04⟩ := HX0.out _ HW.out
       obtain ⟨x10, x11, x12, x13, x14⟩ := HX1.out _ HW.out
       obtain ⟨x20, x21, x22, x23, x24⟩ := HX2.out _ HW.out
       obtain ⟨x30, x31, x32, x33, x34⟩ := HX3.out _ HW.out
       obtain ⟨x40, x41, x42, x43, x44⟩ := HX4.out _ HW.out
       clear hc)
    | (go_at_call 28
       with_reducible refine (he4.out kA4 kn4 kc4 _ (Hv.out _ HC.out) (HK4.out _ HC.out).isN).mono ?_
       rintro e w2 ⟨rfl, hc⟩
       have HC := Go.Lib.hid (HC.out.trans hc)
       have HW := Go.Lib.hid (HW.out.trans hc)
       clear x00 x01 x02 x03 x04 x10 x11 x12 x13 x14 x20 x21 x22 x23 x24 x30 x31 x32 x33 x34 x40 x41 x42 x43 x44
       obtain ⟨x00, x01, x02, x03, x04⟩ := HX0.out _ HW.out
       obtain ⟨x10, x11, x12, x13, x14⟩ := HX1.out _ HW.out
       obtain ⟨x20, x21, x22, x23, x24⟩ := HX2.out _ HW.out
       obtain ⟨x30, x31, x32, x33, x34⟩ := HX3.out _ HW.out
       obtain ⟨x40, x41, x42, x43, x44⟩ := HX4.out _ HW.out
       clear hc))
  all_goals
    go_ret
    exact ⟨congrArg (fun b => Ending.returned (.bool b)) (by rw [Heq.out]; try simp [*]), H0.out.trans HC.out⟩
end Go.Proofs.Ytnihjkcniddepaa

