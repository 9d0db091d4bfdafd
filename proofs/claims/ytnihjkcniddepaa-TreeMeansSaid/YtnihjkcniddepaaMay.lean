/- What is proved: the contracts of tree's MayType, MayStmts, mayDecls, May at any node. Conditions: the library's variable holds a number. -/
import Derived.Test.YtnihjkcniddepaaProc
namespace Go.Proofs.Ytnihjkcniddepaa
open Go.RowKit
theorem len_five {f : F} (h : (f.len : Int) = 5) : ∃ d0 k0 d1 k1 d2 k2 d3 k3 d4 k4, f = .cons d0 k0 (.cons d1 k1 (.cons d2 k2 (.cons d3 k3 (.cons d4 k4 .nil)))) := by
  match f, h with
  | .cons d0 k0 (.cons d1 k1 (.cons d2 k2 (.cons d3 k3 (.cons d4 k4 .nil)))), _ => exact ⟨_, _, _, _, _, _, _, _, _, _, rfl⟩
  | .nil, h => simp [F.len] at h
  | .cons _ _ .nil, h => simp [F.len] at h
  | .cons _ _ (.cons _ _ .nil), h => simp [F.len] at h
  | .cons _ _ (.cons _ _ (.cons _ _ .nil)), h => simp [F.len] at h
  | .cons _ _ (.cons _ _ (.cons _ _ (.cons _ _ .nil))), h => simp [F.len] at h
  | .cons _ _ (.cons _ _ (.cons _ _ (.cons _ _ (.cons _ _ (.cons _ _ r))))), h => simp [F.len] at h; omega
theorem len_three {f : F} (h : (f.len : Int) = 3) : ∃ d0 k0 d1 k1 d2 k2, f = .cons d0 k0 (.cons d1 k1 (.cons d2 k2 .nil)) := by
  match f, h with
  | .cons d0 k0 (.cons d1 k1 (.cons d2 k2 .nil)), _ => exact ⟨_, _, _, _, _, _, rfl⟩
  | .nil, h => simp [F.len] at h
  | .cons _ _ .nil, h => simp [F.len] at h
  | .cons _ _ (.cons _ _ .nil), h => simp [F.len] at h
  | .cons _ _ (.cons _ _ (.cons _ _ (.cons _ _ r))), h => simp [F.len] at h; omega
theorem decl_c (d : Own) (ks : F) (he : ks.All (MayC 28 expT)) (ht : ks.All (MayC 32 typT)) (hdf : ks.All (MayC 61 defT)) (hpar : ks.All fun _ k0 => k0.All (MayC 62 parT)) (hno : ks.All (MayC 63 noneT)) (hqu : ks.All (MayC 51 qualT))
    (hds : ks.All (MayC 46 declsT)) (hun : ks.All (MayC 64 unmT)) (hss : ks.All (MayC 29 stmtsT)) : MayC 57 declT d ks := by
  intro kA kn kc w hv hN
  by_cases h4 : d.kind = 4
  · cases his : isT d ks.len d.kind pNMK 1 with
    | false => exact dcl4_false d ks kA kn kc w hv hN h4 his
    | true =>
      obtain ⟨d0, k0, rfl⟩ := len_one (isT_cnt his (by decide))
      exact dcl4_true d d0 k0 .nil kA kn kc w hv hN h4 (Go.Lib.hid he.1) his
  by_cases h5 : d.kind = 5
  · cases his : isT d ks.len d.kind pNMK 1 with
    | false => exact dcl5_false d ks kA kn kc w hv hN h5 his
    | true =>
      obtain ⟨d0, k0, rfl⟩ := len_one (isT_cnt his (by decide))
      exact dcl5_true d d0 k0 .nil kA kn kc w hv hN h5 (Go.Lib.hid ht.1) his
  by_cases h6 : d.kind = 6
  · cases his : isT d ks.len d.kind pK (-1) with
    | false => exact dcl6_false d ks kA kn kc w hv hN h6 his
    | true => exact dcl6_true d ks kA kn kc w hv hN h6 hdf ht his
  by_cases h7 : d.kind = 7
  · cases his : isT d ks.len d.kind pNMK 5 with
    | false => exact dcl7_false d ks kA kn kc w hv hN h7 his
    | true =>
      obtain ⟨d0, k0, d1, k1, d2, k2, d3, k3, d4, k4, rfl⟩ := len_five (isT_cnt his (by decide))
      exact dcl7_true d d0 k0 d1 k1 d2 k2 d3 k3 d4 k4 kA kn kc w hv hN h7 hpar.1 (Go.Lib.hid hno.2.1) (Go.Lib.hid hqu.2.1) (Go.Lib.hid hds.2.2.1) (Go.Lib.hid hun.2.2.1) (Go.Lib.hid hss.2.2.2.1) (Go.Lib.hid hno.2.2.2.2.1) (Go.Lib.hid he.2.2.2.2.1) his
  exact dcl_other d ks kA kn kc w h4 h5 h6 h7
structure PartC (d : Own) (ks : F) : Prop where
  qual : MayC 51 qualT d ks
  typ : MayC 32 typT d ks
  flds : MayC 50 fldsT d ks
  pk : MayC 69 pkT d ks
  par : MayC 62 parT d ks
  pars : ks.All (MayC 62 parT)
  um : MayC 70 umT d ks
  unm : MayC 64 unmT d ks
  decl : MayC 57 declT d ks
  decls : MayC 46 declsT d ks
  stmt : MayC 47 stmtT d ks
  stmts : MayC 29 stmtsT d ks
theorem all_of {p : Own → F → Prop} (h : ∀ d ks, p d ks) (f : F) : f.All p := F.each (fun d ks _ => h d ks) f
theorem designator_c (d : Own) (ks : F) : MayC 54 desT d ks := (expC (.cons d ks .nil)).1.des
theorem mayQual_c (d : Own) (ks : F) : MayC 51 qualT d ks := qual_c d ks (mayWord_c d ks) (all_of mayWord_c ks)
theorem partC (f : F) : f.All PartC := F.each (fun d ks h => by
  have he : ks.All (MayC 28 expT) := all_of MayExpr_c ks
  have hw : ks.All (MayC 45 wordT) := all_of mayWord_c ks
  have hq := mayQual_c d ks
  have hqs : ks.All (MayC 51 qualT) := all_of mayQual_c ks
  have ht := h.imp_ fun _ _ h => h.typ
  have hss := h.imp_ fun _ _ h => h.stmts
  have hpars := h.imp_ fun _ _ h => h.par
  have htyp := typ_c d ks hq he ht (h.imp_ fun _ _ h => h.flds)
  have hum := um_c d ks (all_of dm_c ks)
  have hdecl := decl_c d ks he ht (all_of mayDef_c ks) (h.imp_ fun _ _ h => h.pars) (all_of mayNone_c ks) hqs (h.imp_ fun _ _ h => h.decls) (h.imp_ fun _ _ h => h.unm) hss
  exact ⟨hq, htyp, flds_c d ks hw ht, pk_c d ks hq hqs, par_c d ks hw (h.imp_ fun _ _ h => h.pk), hpars, hum, unm_c d ks (h.imp_ fun _ _ h => h.um), hdecl, decls_c d ks (h.imp_ fun _ _ h => h.decl),
    stmt_c d ks (all_of designator_c ks) he hss, stmts_c d ks (h.imp_ fun _ _ h => h.stmt)⟩) f
theorem part_c (d : Own) (ks : F) : PartC d ks := (partC (.cons d ks .nil)).1
theorem MayType_c (d : Own) (ks : F) : MayC 32 typT d ks := (part_c d ks).typ
theorem MayStmts_c (d : Own) (ks : F) : MayC 29 stmtsT d ks := (part_c d ks).stmts
theorem mayDecls_c (d : Own) (ks : F) : MayC 46 declsT d ks := (part_c d ks).decls
set_option maxHeartbeats 400000 in
theorem may__false (d : Own) (ks : F) (kA : Option Addr) (kn kc : Nat) (w : World) (hv : Var0 w) (hN : IsN w d ks kA kn kc) (his : isT d (F.len ks) 1 pNK (3) = false) :
    Calls Try.prog 27 #[nodeV d kA kn kc] w (fun e w' => e = .returned (.bool (mayT d ks)) ∧ Chg NoB w w') := by
  have hlen := hN.kids.len
  have hw0 : Chg NoB w (w.alloc (.cells #[.int .i64 d.kind, .string d.nm, .int .u32 d.val, .bool d.mark, .slice kA kn kc] 28)) := (Chg.refl _ _).alloc _
  have h1 := is_c d hN.ok kA kn kc (Nat.le_trans hN.le hN.most) 1 pNK (by decide) (3) (w.alloc (.cells #[.int .i64 d.kind, .string d.nm, .int .u32 d.val, .bool d.mark, .slice kA kn kc] 28)) (hv.chg hw0)
  rw [hlen, his, ← hlen] at h1
  unfold nodeV pNK at h1
  have H1 := Go.Lib.hid h1
  have Heq : Hid (mayT d ks = false) := Go.Lib.hid (by show (isT d ks.len 1 pNK 3 && _) = false; rw [his]; rfl)
  have H0 := Go.Lib.hid hw0
  clear h1 his hlen hw0
  unfold nodeV
  go_enter Try.func27, Try.ntmps27
  go_wp2_with fail
  refine H1.out.mono ?_
  rintro e w1 ⟨rfl, hc⟩
  obtain ⟨hb0, hb1, hb2, hb3, hb4⟩ := box5 hc
  have HC := Go.Lib.hid hc
  clear hc
  go_wp2_with fail
  go_ret
  exact ⟨congrArg (fun b => Ending.returned (.bool b)) Heq.out.symm, H0.out.trans HC.out⟩
set_option maxHeartbeats 1000000 in
theorem may_true (d : Own) (d0 : Own) (k0 : F) (d1 : Own) (k1 : F) (d2 : Own) (k2 : F) (kA : Option Addr) (kn kc : Nat) (w : World) (hv : Var0 w) (hN : IsN w d (.cons d0 k0 (.cons d1 k1 (.cons d2 k2 .nil))) kA kn kc) (his : isT d (F.len (.cons d0 k0 (.cons d1 k1 (.cons d2 k2 .nil)))) 1 pNK (3) = true) :
    Calls Try.prog 27 #[nodeV d kA kn kc] w (fun e w' => e = .returned (.bool (mayT d (.cons d0 k0 (.cons d1 k1 (.cons d2 k2 .nil))))) ∧ Chg NoB w w') := by
  have hlen : kn = 3 := hN.kids.len
  obtain ⟨b0, o0, rfl⟩ := hN.kids.base
  obtain ⟨kA0, kn0, kc0, hk0⟩ := hN.kids.kidAt (k := 0) (by omega) rfl
  obtain ⟨kA1, kn1, kc1, hk1⟩ := hN.kids.kidAt (k := 1) (by omega) rfl
  obtain ⟨kA2, kn2, kc2, hk2⟩ := hN.kids.kidAt (k := 2) (by omega) rfl
  have hw0 : Chg NoB w (w.alloc (.cells #[.int .i64 d.kind, .string d.nm, .int .u32 d.val, .bool d.mark, .slice (some ⟨b0, o0, none⟩) kn kc] 28)) := (Chg.refl _ _).alloc _
  have h1 := is_c d hN.ok (some ⟨b0, o0, none⟩) kn kc (Nat.le_trans hN.le hN.most) 1 pNK (by decide) (3) (w.alloc (.cells #[.int .i64 d.kind, .string d.nm, .int .u32 d.val, .bool d.mark, .slice (some ⟨b0, o0, none⟩) kn kc] 28)) (hv.chg hw0)
  rw [show isT d kn 1 pNK (3) = true from hlen ▸ his] at h1
  unfold nodeV pNK at h1
  have H1 := Go.Lib.hid h1
  have hL0 : kn0 = k0.len := hk0.isN.kids.len
  have Heq := Go.Lib.hid (show mayT d (.cons d0 k0 (.cons d1 k1 (.cons d2 k2 .nil))) = ((isT d0 kn0 2 pK (-1) && F.all wordT k0) && (declsT d1 k1 && stmtsT d2 k2)) by rw [hL0]; unfold mayT; rw [his, Bool.true_and]; show ((isT d0 k0.len 2 pK (-1) && k0.atts2.all Att2.word) && _) = _; rw [F.all_att2]; rfl)
  have Hv : Hid (∀ W, Chg NoB (w.alloc (.cells #[.int .i64 d.kind, .string d.nm, .int .u32 d.val, .bool d.mark, .slice (some ⟨b0, o0, none⟩) kn kc] 28)) W → Var0 W) := Go.Lib.hid fun W hW => hv.chg (hw0.trans hW)
  have HK0 : Hid (∀ W, Chg NoB (w.alloc (.cells #[.int .i64 d.kind, .string d.nm, .int .u32 d.val, .bool d.mark, .slice (some ⟨b0, o0, none⟩) kn kc] 28)) W → KidAt W b0 (o0) d0 k0 kA0 kn0 kc0) := Go.Lib.hid fun W hW => hk0.chg (hw0.trans hW)
  have HK1 : Hid (∀ W, Chg NoB (w.alloc (.cells #[.int .i64 d.kind, .string d.nm, .int .u32 d.val, .bool d.mark, .slice (some ⟨b0, o0, none⟩) kn kc] 28)) W → KidAt W b0 (o0 + 5) d1 k1 kA1 kn1 kc1) := Go.Lib.hid fun W hW => hk1.chg (hw0.trans hW)
  have HK2 : Hid (∀ W, Chg NoB (w.alloc (.cells #[.int .i64 d.kind, .string d.nm, .int .u32 d.val, .bool d.mark, .slice (some ⟨b0, o0, none⟩) kn kc] 28)) W → KidAt W b0 (o0 + 10) d2 k2 kA2 kn2 kc2) := Go.Lib.hid fun W hW => hk2.chg (hw0.trans hW)
  have h8 : ∀ W, Chg NoB (w.alloc (.cells #[.int .i64 d.kind, .string d.nm, .int .u32 d.val, .bool d.mark, .slice (some ⟨b0, o0, none⟩) kn kc] 28)) W → Calls Try.prog 43 #[nodeV d0 kA0 kn0 kc0, .int .i64 2, .string pK, .int .i64 (-1)] W fun e w' => e = .returned (.bool (isT d0 kn0 2 pK (-1))) ∧ Chg NoB W w' := fun W hW => is_c d0 hk0.isN.ok kA0 kn0 kc0 (Nat.le_trans hk0.isN.le hk0.isN.most) 2 pK (by decide) (-1) W (Hv.out W hW)
  unfold nodeV pK at h8
  have H8 := Go.Lib.hid h8
  have HALL : Hid (∀ W, Chg NoB (w.alloc (.cells #[.int .i64 d.kind, .string d.nm, .int .u32 d.val, .bool d.mark, .slice (some ⟨b0, o0, none⟩) kn kc] 28)) W → Calls Try.prog 44 #[.slice kA0 kn0 kc0, .func (.func 45) #[] #[]] W fun e w' => e = .returned (.bool (F.all wordT k0)) ∧ Chg NoB W w') := Go.Lib.hid fun W hW => all_c _ cf_word wordT k0 (all_of mayWord_c k0) _ _ _ (Nat.le_trans hk0.isN.le hk0.isN.most) W (Hv.out W hW) (HK0.out W hW).isN.kids
  have hd1 := mayDecls_c d1 k1
  unfold MayC at hd1
  have hd1 := Go.Lib.hid hd1
  have hs2 := MayStmts_c d2 k2
  unfold MayC at hs2
  have hs2 := Go.Lib.hid hs2
  have H0 := Go.Lib.hid hw0
  clear h1 h8 his hw0 hN hv hL0 hk0 hk1 hk2
  subst hlen
  unfold pK at Heq
  generalize isT d0 kn0 2 ⟨#[75]⟩ (-1) = q8 at Heq H8
  generalize F.all wordT k0 = q9 at Heq HALL
  unfold nodeV
  go_enter Try.func27, Try.ntmps27
  go_wp2_with fail
  refine H1.out.mono ?_
  rintro e w1 ⟨rfl, hc⟩
  obtain ⟨hb0, hb1, hb2, hb3, hb4⟩ := box5 hc
  have HC := Go.Lib.hid hc
  clear hc
  obtain ⟨x00, x01, x02, x03, x04, _⟩ := HK0.out _ HC.out
  obtain ⟨x10, x11, x12, x13, x14, _⟩ := HK1.out _ HC.out
  obtain ⟨x20, x21, x22, x23, x24, _⟩ := HK2.out _ HC.out
  go_wp2_with (first
    | (go_at_call 43
       with_reducible refine (H8.out _ HC.out).mono ?_
       rintro e w1 ⟨rfl, hc⟩
       have HC := Go.Lib.hid (HC.out.trans hc)
       clear hc hb0 hb1 hb2 hb3 hb4
       obtain ⟨hb0, hb1, hb2, hb3, hb4⟩ := box5 HC.out
       clear x00 x01 x02 x03 x04 x10 x11 x12 x13 x14 x20 x21 x22 x23 x24
       obtain ⟨x00, x01, x02, x03, x04, _⟩ := HK0.out _ HC.out
       obtain ⟨x10, x11, x12, x13, x14, _⟩ := HK1.out _ HC.out
       obtain ⟨x20, x21, x22, x23, x24, _⟩ := HK2.out _ HC.out)
    | (go_at_call 44
       with_reducible refine (HALL.out _ HC.out).mono ?_
       rintro e w1 ⟨rfl, hc⟩
       have HC := Go.Lib.hid (HC.out.trans hc)
       clear hc hb0 hb1 hb2 hb3 hb4
       obtain ⟨hb0, hb1, hb2, hb3, hb4⟩ := box5 HC.out
       clear x00 x01 x02 x03 x04 x10 x11 x12 x13 x14 x20 x21 x22 x23 x24
       obtain ⟨x00, x01, x02, x03, x04, _⟩ := HK0.out _ HC.out
       obtain ⟨x10, x11, x12, x13, x14, _⟩ := HK1.out _ HC.out
       obtain ⟨x20, x21, x22, x23, x24, _⟩ := HK2.out _ HC.out)
    | (go_at_call 46
       with_reducible refine (hd1.out kA1 kn1 kc1 _ (Hv.out _ HC.out) (HK1.out _ HC.out).isN).mono ?_
       rintro e w1 ⟨rfl, hc⟩
       have HC := Go.Lib.hid (HC.out.trans hc)
       clear hc hb0 hb1 hb2 hb3 hb4
       obtain ⟨hb0, hb1, hb2, hb3, hb4⟩ := box5 HC.out
       clear x00 x01 x02 x03 x04 x10 x11 x12 x13 x14 x20 x21 x22 x23 x24
       obtain ⟨x00, x01, x02, x03, x04, _⟩ := HK0.out _ HC.out
       obtain ⟨x10, x11, x12, x13, x14, _⟩ := HK1.out _ HC.out
       obtain ⟨x20, x21, x22, x23, x24, _⟩ := HK2.out _ HC.out)
    | (go_at_call 29
       with_reducible refine (hs2.out kA2 kn2 kc2 _ (Hv.out _ HC.out) (HK2.out _ HC.out).isN).mono ?_
       rintro e w1 ⟨rfl, hc⟩
       have HC := Go.Lib.hid (HC.out.trans hc)
       clear hc hb0 hb1 hb2 hb3 hb4
       obtain ⟨hb0, hb1, hb2, hb3, hb4⟩ := box5 HC.out
       clear x00 x01 x02 x03 x04 x10 x11 x12 x13 x14 x20 x21 x22 x23 x24
       obtain ⟨x00, x01, x02, x03, x04, _⟩ := HK0.out _ HC.out
       obtain ⟨x10, x11, x12, x13, x14, _⟩ := HK1.out _ HC.out
       obtain ⟨x20, x21, x22, x23, x24, _⟩ := HK2.out _ HC.out))
  all_goals
    go_ret
    exact ⟨congrArg (fun b => Ending.returned (.bool b)) (by rw [Heq.out]; try simp [*]), H0.out.trans HC.out⟩
theorem May_c (d : Own) (ks : F) : MayC 27 mayT d ks := by
  intro kA kn kc w hv hN
  cases his : isT d ks.len 1 pNK 3 with
  | false => exact may__false d ks kA kn kc w hv hN his
  | true =>
    obtain ⟨d0, k0, d1, k1, d2, k2, rfl⟩ := len_three (isT_cnt his (by decide))
    exact may_true d d0 k0 d1 k1 d2 k2 kA kn kc w hv hN his
end Go.Proofs.Ytnihjkcniddepaa

