/- What is proved: the contracts of tree's unmarked, mayDecls at a node, out of the contracts at the nodes below it. Conditions: the library's variable holds a number. -/
import Derived.Test.YtnihjkcniddepaaStm
namespace Go.Proofs.Ytnihjkcniddepaa
open Go.RowKit
set_option maxHeartbeats 400000 in
theorem dm_c (d : Own) (ks : F) : MayC 71 dmT d ks := by
  intro kA kn kc w hv hN
  have H0 := Go.Lib.hid (show Chg NoB w (w.alloc (.cells #[.int .i64 d.kind, .string d.nm, .int .u32 d.val, .bool d.mark, .slice kA kn kc] 28)) from (Chg.refl _ _).alloc _)
  have Heq : Hid (dmT d ks = ((d.kind != 10) || !d.mark)) := Go.Lib.hid rfl
  clear hv hN
  unfold nodeV
  go_enter Try.func71, Try.ntmps71
  go_wp2_with fail
  all_goals
    go_ret
    exact ⟨congrArg (fun b => Ending.returned (.bool b)) (by rw [Heq.out]; simp [*]), (Chg.refl _ _).alloc _⟩
set_option maxHeartbeats 400000 in
theorem um_c (d : Own) (ks : F) (hall : ks.All (MayC 71 dmT)) : MayC 70 umT d ks := by
  intro kA kn kc w hv hN
  have HALL : Hid (∀ o, Calls Try.prog 44 #[.slice kA kn kc, .func (.func 71) #[] #[]] (w.alloc o) fun e w' => e = .returned (.bool (F.all dmT ks)) ∧ Chg NoB (w.alloc o) w') := Go.Lib.hid fun o =>
    all_c _ cf_dm dmT ks hall _ _ _ (Nat.le_trans hN.le hN.most) _ (hv.chg ((Chg.refl _ _).alloc _)) (hN.kids.chg ((Chg.refl _ _).alloc _))
  have Heq : Hid (umT d ks = (!d.mark && ((d.kind != 6) || F.all dmT ks))) := Go.Lib.hid (by
    have e : umT d ks = (!d.mark && ((d.kind != 6) || ks.atts2.all Att2.dm)) := rfl
    rw [e, F.all_att2]; rfl)
  clear hv hN hall
  unfold nodeV
  go_enter Try.func70, Try.ntmps70
  by_cases h1 : d.mark = true
  · go_wp2_with fail
    go_ret
    exact ⟨congrArg (fun b => Ending.returned (.bool b)) (by rw [Heq.out, h1]; rfl), (Chg.refl _ _).alloc _⟩
  · by_cases h2 : d.kind = 6
    · have t6 : (d.kind != 6) = false := by simp [h2]
      clear h2
      go_wp2_with fail
      refine (HALL.out _).mono ?_
      rintro e w1 ⟨rfl, hc⟩
      go_wp2_with fail
      go_ret
      exact ⟨congrArg (fun b => Ending.returned (.bool b)) (by rw [Heq.out, t6]; simp [h1]), ((Chg.refl _ _).alloc _).trans hc⟩
    · have t6 : (d.kind != 6) = true := by simp [h2]
      clear h2
      go_wp2_with fail
      go_ret
      exact ⟨congrArg (fun b => Ending.returned (.bool b)) (by rw [Heq.out, t6]; simp [h1]), (Chg.refl _ _).alloc _⟩
set_option maxHeartbeats 400000 in
theorem unm_c (d : Own) (ks : F) (hall : ks.All (MayC 70 umT)) : MayC 64 unmT d ks := by
  intro kA kn kc w hv hN
  have hw0 : Chg NoB w (w.alloc (.cells #[.int .i64 d.kind, .string d.nm, .int .u32 d.val, .bool d.mark, .slice kA kn kc] 28)) := (Chg.refl _ _).alloc _
  have Hv : Hid (∀ W, Chg NoB (w.alloc (.cells #[.int .i64 d.kind, .string d.nm, .int .u32 d.val, .bool d.mark, .slice kA kn kc] 28)) W → Var0 W) := Go.Lib.hid fun W hW => hv.chg (hw0.trans hW)
  have HALLN : Hid (kn ≤ maxLen) := Go.Lib.hid (Nat.le_trans hN.le hN.most)
  have HALLL : Hid (∀ W, Chg NoB (w.alloc (.cells #[.int .i64 d.kind, .string d.nm, .int .u32 d.val, .bool d.mark, .slice kA kn kc] 28)) W → IsL W kA kn ks) := Go.Lib.hid fun W hW => hN.kids.chg (hw0.trans hW)
  have HALL : Hid (∀ W, Chg NoB (w.alloc (.cells #[.int .i64 d.kind, .string d.nm, .int .u32 d.val, .bool d.mark, .slice kA kn kc] 28)) W → Calls Try.prog 44 #[.slice kA kn kc, .func (.func 70) #[] #[]] W fun e w' => e = .returned (.bool (F.all umT ks)) ∧ Chg NoB W w') := Go.Lib.hid fun W hW => all_c _ cf_um umT ks hall _ _ _ HALLN.out W (Hv.out W hW) (HALLL.out W hW)
  have Heq : Hid (unmT d ks = F.all umT ks) := Go.Lib.hid (by
    have e : unmT d ks = ks.atts2.all Att2.um := rfl
    rw [e, F.all_att2]; rfl)
  have H0 := Go.Lib.hid hw0
  have HC : Hid (Chg NoB (w.alloc (.cells #[.int .i64 d.kind, .string d.nm, .int .u32 d.val, .bool d.mark, .slice kA kn kc] 28)) (w.alloc (.cells #[.int .i64 d.kind, .string d.nm, .int .u32 d.val, .bool d.mark, .slice kA kn kc] 28))) := Go.Lib.hid (Chg.refl _ _)
  clear hw0 hv hN hall
  unfold nodeV
  go_enter Try.func64, Try.ntmps64
  go_wp2_with fail
  refine (HALL.out _ HC.out).mono ?_
  rintro e w1 ⟨rfl, hc⟩
  go_wp2_with fail
  go_ret
  exact ⟨congrArg (fun b => Ending.returned (.bool b)) Heq.out.symm, H0.out.trans hc⟩

/-- the kind ahead of a declaration -/
def lastK (f : F) (k : Nat) : Int := if k = 0 then 4 else (f.atts2.getD (k - 1) badB).kind
def ordQ (f : F) (k : Nat) : Bool := decide (lastK f k ≤ (f.atts2.getD k badB).kind) && (f.atts2.getD k badB).decl
theorem ordL_allN : ∀ (l : List Att2) (last : Int), ordL last l = allN (fun k => decide ((if k = 0 then last else (l.getD (k - 1) badB).kind) ≤ (l.getD k badB).kind) && (l.getD k badB).decl) l.length := by
  intro l
  induction l with
  | nil => intro last; rfl
  | cons a r ih =>
    intro last
    simp only [ordL, List.length_cons]
    rw [allN_shift, ih a.kind]
    have e0 : ((if (0 : Nat) = 0 then last else ((a :: r).getD (0 - 1) badB).kind)) = last := rfl
    simp only [e0, List.getD_cons_zero]
    congr 1
    refine allN_congr _ fun i _ => ?_
    cases i with
    | zero => simp
    | succ i => simp
theorem ordL_ordQ (f : F) : ordL 4 f.atts2 = allN (ordQ f) f.len := by
  rw [ordL_allN, F.atts2_len]; rfl
def DeclsX (f : F) (g : Nat) (k : Nat) (W : World) : Prop := W.cell? ⟨g, 0, none⟩ = some (.int .i64 (lastK f k)) ∧ W.frozen? ⟨g, 0, none⟩ = false
set_option maxHeartbeats 400000 in
theorem decls1_c (d : Own) (ks : F) (hd : MayC 57 declT d ks) (last : Int) (g : Nat) (kA : Option Addr) (kn kc : Nat) (W : World) (hv : Var0 W) (hN : IsN W d ks kA kn kc) (hc : W.cell? ⟨g, 0, none⟩ = some (.int .i64 last)) (hf : W.frozen? ⟨g, 0, none⟩ = false) :
    Calls Try.prog 56 #[nodeV d kA kn kc, .pointer (some ⟨g, 0, none⟩)] W fun e W' => e = .returned (.bool (decide (last ≤ d.kind) && declT d ks)) ∧ Chg (fun q => q = g) W W' ∧ W'.cell? ⟨g, 0, none⟩ = some (.int .i64 d.kind) ∧ W'.frozen? ⟨g, 0, none⟩ = false := by
  have hg := block_lt_of_cell hc
  have hw0 : Chg NoB W (W.alloc (.cells #[.int .i64 d.kind, .string d.nm, .int .u32 d.val, .bool d.mark, .slice kA kn kc] 28)) := (Chg.refl _ _).alloc _
  have h1 := hd kA kn kc _ (hv.chg hw0) (hN.chg hw0)
  unfold nodeV at h1
  have H1 := Go.Lib.hid h1
  have H0 := Go.Lib.hid hw0
  have HG : Hid (∀ W', Chg NoB (W.alloc (.cells #[.int .i64 d.kind, .string d.nm, .int .u32 d.val, .bool d.mark, .slice kA kn kc] 28)) W' → W'.cell? ⟨g, 0, none⟩ = some (.int .i64 last) ∧ W'.frozen? ⟨g, 0, none⟩ = false) := Go.Lib.hid fun W' hW => by
    refine ⟨(hw0.trans hW).cell hc id, ?_⟩
    rw [World.frozen?_of_block ((hw0.trans hW).block g hg id)]; exact hf
  have HFin : Hid (∀ W', Chg NoB (W.alloc (.cells #[.int .i64 d.kind, .string d.nm, .int .u32 d.val, .bool d.mark, .slice kA kn kc] 28)) W' → Chg (fun q => q = g) W (W'.setCell ⟨g, 0, none⟩ (.int .i64 d.kind)) ∧ (W'.setCell ⟨g, 0, none⟩ (.int .i64 d.kind)).cell? ⟨g, 0, none⟩ = some (.int .i64 d.kind) ∧ (W'.setCell ⟨g, 0, none⟩ (.int .i64 d.kind)).frozen? ⟨g, 0, none⟩ = false) := Go.Lib.hid fun W' hW => by
    refine ⟨Chg.setCell (F := fun q => q = g) ((hw0.trans hW).mono fun _ _ h => h.elim) (p := ⟨g, 0, none⟩) (fun _ => rfl) _, World.cell?_setCell_same _ _ _ (HG.out W' hW).1, ?_⟩
    rw [World.frozen?_setCell]; exact (HG.out W' hW).2
  obtain ⟨q0, q1⟩ := HG.out _ (Chg.refl _ _)
  clear h1 hw0 hv hN hd hc hf hg
  unfold nodeV
  go_enter Try.func56, Try.ntmps56
  by_cases hl : last ≤ d.kind
  · have Hl := Go.Lib.hid (decide_eq_true hl)
    go_wp2_with fail
    refine H1.out.mono ?_
    rintro e w1 ⟨rfl, hc⟩
    obtain ⟨b0, b1, b2, b3, b4⟩ := box5 hc
    obtain ⟨q0, q1⟩ := HG.out _ hc
    have HF := Go.Lib.hid (HFin.out _ hc)
    clear hc
    go_wp2_with fail
    go_ret
    exact ⟨by rw [Hl.out, Bool.true_and]; rfl, HF.out⟩
  · have Hl := Go.Lib.hid (decide_eq_false hl)
    have HF := Go.Lib.hid (HFin.out _ (Chg.refl _ _))
    go_wp2_with fail
    go_ret
    exact ⟨by rw [Hl.out]; rfl, HF.out⟩

set_option maxHeartbeats 400000 in
theorem decls_no (d : Own) (ks : F) (kA : Option Addr) (kn kc : Nat) (w : World) (hv : Var0 w) (hN : IsN w d ks kA kn kc) (his : isT d ks.len 3 pK (-1) = false) :
    Calls Try.prog 46 #[nodeV d kA kn kc] w fun e w' => e = .returned (.bool (declsT d ks)) ∧ Chg NoB w w' := by
  have hlen := hN.kids.len
  have hw0 : Chg NoB w (World.alloc (w.alloc (.cells #[.int .i64 d.kind, .string d.nm, .int .u32 d.val, .bool d.mark, .slice kA kn kc] 28)) (.cells #[.int .i64 4] 24)) := ((Chg.refl _ _).alloc _).alloc _
  have h1 := is_c d hN.ok kA kn kc (Nat.le_trans hN.le hN.most) 3 pK (by decide) (-1) _ (hv.chg hw0)
  rw [hlen, his, ← hlen] at h1
  unfold nodeV pK at h1
  have H1 := Go.Lib.hid h1
  have H0 := Go.Lib.hid hw0
  have Heq : Hid (declsT d ks = false) := Go.Lib.hid (by show declsM d _ _ = _; unfold declsM; rw [his]; rfl)
  clear h1 hw0 hv hN his hlen
  unfold nodeV
  go_enter Try.func46, Try.ntmps46
  go_wp2_with fail
  refine H1.out.mono ?_
  rintro e w1 ⟨rfl, hc⟩
  go_wp2_with fail
  go_ret
  exact ⟨congrArg (fun b => Ending.returned (.bool b)) Heq.out.symm, H0.out.trans hc⟩
set_option maxHeartbeats 1000000 in
theorem decls_yes (d : Own) (ks : F) (hd : ks.All (MayC 57 declT)) (kA : Option Addr) (kn kc : Nat) (w : World) (hv : Var0 w) (hN : IsN w d ks kA kn kc) (his : isT d ks.len 3 pK (-1) = true) :
    Calls Try.prog 46 #[nodeV d kA kn kc] w fun e w' => e = .returned (.bool (declsT d ks)) ∧ Chg NoB w w' := by
  have hlen := hN.kids.len
  have hw0 : Chg NoB w (World.alloc (w.alloc (.cells #[.int .i64 d.kind, .string d.nm, .int .u32 d.val, .bool d.mark, .slice kA kn kc] 28)) (.cells #[.int .i64 4] 24)) := ((Chg.refl _ _).alloc _).alloc _
  have h1 := is_c d hN.ok kA kn kc (Nat.le_trans hN.le hN.most) 3 pK (by decide) (-1) _ (hv.chg hw0)
  rw [hlen, his, ← hlen] at h1
  unfold nodeV pK at h1
  have H1 := Go.Lib.hid h1
  have H0 := Go.Lib.hid hw0
  have Heq : Hid (declsT d ks = allN (ordQ ks) kn) := Go.Lib.hid (by
    show declsM d _ _ = _
    unfold declsM
    rw [his, Bool.true_and, ordL_ordQ, hlen])
  have hb0 : Blk (World.alloc (w.alloc (.cells #[.int .i64 d.kind, .string d.nm, .int .u32 d.val, .bool d.mark, .slice kA kn kc] 28)) (.cells #[.int .i64 4] 24)) w.heap.size 28 #[.int .i64 d.kind, .string d.nm, .int .u32 d.val, .bool d.mark, .slice kA kn kc] := (Blk.new _ _ _).alloc _
  have hb1 : Blk (World.alloc (w.alloc (.cells #[.int .i64 d.kind, .string d.nm, .int .u32 d.val, .bool d.mark, .slice kA kn kc] 28)) (.cells #[.int .i64 4] 24)) (w.heap.size + 1) 24 #[.int .i64 4] := Blk.at_ _ _ _ _ (by simp)
  have HB0 := Go.Lib.hid hb0
  have HB1 := Go.Lib.hid hb1
  have HAll : Hid (∀ W, Chg NoB (World.alloc (w.alloc (.cells #[.int .i64 d.kind, .string d.nm, .int .u32 d.val, .bool d.mark, .slice kA kn kc] 28)) (.cells #[.int .i64 4] 24)) W → Calls Try.prog 44 #[.slice kA kn kc, .func (.func 56) #[] #[.pointer (some ⟨w.heap.size + 1, 0, none⟩)]] W fun e W' => e = .returned (.bool (allN (ordQ ks) kn)) ∧ Chg (fun q => q = w.heap.size + 1) W W' ∧ (allN (ordQ ks) kn = true → DeclsX ks (w.heap.size + 1) kn W')) := Go.Lib.hid fun W hW => by
    have hold : ∀ W', Chg (fun q => q = w.heap.size + 1) W W' → Chg NoB w W' := fun W' h => (hw0.trans hW).step h fun i hi hg => by omega
    refine all_any 56 _ (ordQ ks) (fun q => q = w.heap.size + 1) (DeclsX ks (w.heap.size + 1)) W kA kn kc ks (Nat.le_trans hN.le hN.most) cf_decls1 ?_ ?_ ?_ ?_
    · rintro k W1 W2 ⟨h1, h2⟩ h
      exact ⟨h.cell h1 id, by rw [World.frozen?_of_block (h.block _ (block_lt_of_cell h1) id)]; exact h2⟩
    · exact fun W' h => hN.kids.chg (hold W' h)
    · exact ⟨(hb1.chg hW id).cell 0, (hb1.chg hW id).frozen 0⟩
    · intro k d1 k1 r hdk hk W1 kA1 kn1 kc1 hW1 hX hN1
      have ha := F.at_drop ks k hdk
      refine (decls1_c d1 k1 (F.All.at_ hd ha) (lastK ks k) (w.heap.size + 1) kA1 kn1 kc1 W1 (hv.chg (hold W1 hW1)) hN1 hX.1 hX.2).mono ?_
      rintro e W2 ⟨rfl, h2, h3, h4⟩
      have hg := F.at_att2 ks k ha
      refine ⟨?_, hW1.trans h2, fun _ => ⟨?_, h4⟩⟩
      · have : ordQ ks k = (decide (lastK ks k ≤ d1.kind) && declT d1 k1) := by unfold ordQ; rw [hg]; rfl
        rw [this]
      · have : lastK ks (k + 1) = d1.kind := by unfold lastK; rw [if_neg (by omega), Nat.add_sub_cancel, hg]; rfl
        rw [this]; exact h3
  have Hst : Hid (∀ W W', Chg NoB (World.alloc (w.alloc (.cells #[.int .i64 d.kind, .string d.nm, .int .u32 d.val, .bool d.mark, .slice kA kn kc] 28)) (.cells #[.int .i64 4] 24)) W → Chg (fun q => q = w.heap.size + 1) W W' → Chg NoB w W') := Go.Lib.hid fun W W' h h' => (hw0.trans h).step h' fun i hi hg => by omega
  clear h1 hw0 hv hN his hlen hd hb0 hb1
  unfold nodeV
  go_enter Try.func46, Try.ntmps46
  go_wp2_with fail
  refine H1.out.mono ?_
  rintro e w1 ⟨rfl, hc⟩
  obtain ⟨b0, b1, b2, b3, b4⟩ := blk5 HB0.out hc
  have HC := Go.Lib.hid hc
  clear hc
  go_wp2_with fail
  refine (HAll.out _ HC.out).mono ?_
  rintro e w2 ⟨rfl, hc2, _⟩
  have HC2 := Go.Lib.hid (Hst.out _ _ HC.out hc2)
  clear hc2
  go_wp2_with fail
  go_ret
  exact ⟨congrArg (fun b => Ending.returned (.bool b)) Heq.out.symm, HC2.out⟩
theorem decls_c (d : Own) (ks : F) (hd : ks.All (MayC 57 declT)) : MayC 46 declsT d ks := by
  intro kA kn kc w hv hN
  cases his : isT d ks.len 3 pK (-1) with
  | false => exact decls_no d ks kA kn kc w hv hN his
  | true => exact decls_yes d ks hd kA kn kc w hv hN his

end Go.Proofs.Ytnihjkcniddepaa
