/- What is proved: LinkNil holds, walked. Conditions: none. -/
import Derived.Test.YteleglkoagnmcaaLnA
set_option linter.unusedSimpArgs false
set_option linter.unusedVariables false
namespace Go.Proofs.Yteleglkoagnmcaa
open Go Go.RowKit
theorem laid_nil : Laid [] := ⟨by simp, by simp, fun i o h => by simp at h, by simp⟩
theorem img_nil : imgP haltW [] = .inr ⟨haltW, []⟩ := by
  rfl
set_option maxRecDepth 100000 in
set_option maxHeartbeats 16000000 in
theorem lay0_c (w : World) : Calls Try.prog 20 #[.slice none 0 0] w fun e w' => ∃ A c B c2, e = .returned (.tuple #[.agg #[.slice A 2 c, .slice B 0 c2], .int .i64 0]) ∧ Chg NoB w w' := by
  have hmm := @run_makeMap Try.prog
  obtain ⟨wA, hwA⟩ : ∃ wA, w.alloc (.cells #[.slice none 0 0, .slice none 0 0] IMT) = wA := ⟨_, rfl⟩
  have hcA : Chg NoB w wA := by rw [← hwA]; exact (Chg.refl NoB w).alloc _
  have hrb : Blk wA w.heap.size IMT #[.slice none 0 0, .slice none 0 0] := by rw [← hwA]; exact Blk.new w IMT _
  obtain ⟨wB, hwB⟩ : ∃ wB, wA.alloc (.map #[] 0) = wB := ⟨_, rfl⟩
  have hcB : Chg NoB wA wB := by rw [← hwB]; exact (Chg.refl NoB wA).alloc _
  have HLY := Go.Lib.hid (lay_c (W := wB) (L := []) (A := none) (c := 0) (fun h => by simp [allCells] at h) (by simp) laid_nil (by simp))
  have HR := Go.Lib.hid (And.intro (hcA.trans hcB) (hrb.chg hcB id))
  have HWA := Go.Lib.hid hwA
  have HWB := Go.Lib.hid hwB
  clear hwA hcA hrb hwB hcB
  go_enter Try.func20, Try.ntmps20
  go_upto_region 2 with fail
  rw [HWA.out, HWB.out]
  clear HWA HWB
  go_wp2_with fail
  go_loopw [16] (fun v wr => v = .int .i64 0 ∧ wr = wB) (fun _ _ => 0)
  case atStart => exact ⟨rfl, rfl⟩
  case round =>
    obtain ⟨rfl, hwr⟩ := hrel
    obtain rfl := hwr.symm
    go_wp2_with fail
    refine HLY.out.mono ?_
    rintro e w3 ⟨hc3, hp⟩
    rw [show imgP haltW (([] : List (Ob × OA)).map (·.1)) = .inr ⟨haltW, []⟩ from img_nil] at hp
    obtain ⟨wv, mv, l, hm, rfl, hw1, hw2, hw3⟩ := hp
    have hl : l = [] := List.map_eq_nil_iff.1 hm
    subst hl
    obtain ⟨wA2, wc2, rfl⟩ := own_slice (show w3.ownsRow wB.heap.size U32T 1 wv 2 (codeCells haltW) from hw1)
    obtain ⟨mA2, mc2, rfl⟩ := own_slice (show w3.ownsRow wB.heap.size PLT 5 mv 0 (plsCells []) from hw2)
    have HC3 := Go.Lib.hid (HR.out.1.trans hc3)
    have HRB3 := Go.Lib.hid (HR.out.2.chg hc3 id)
    clear hc3 hm hw1 hw2 hw3 HLY HR
    go_wp2_with (refine wpList_store_row rfl IMT (.tmp 2) (.tmp 66) rfl w.heap.size #[.slice wA2 2 wc2, .slice mA2 0 mc2] rfl rfl IMT #[.slice none 0 0, .slice none 0 0] HRB3.out (by kernel_rfl) (by rfl) (by kernel_rfl) ?_)
    refine bodyPost_ret (results_cellTmp rfl _ _ rfl rfl (HRB3.out.rowSet #[.slice wA2 2 wc2, .slice mA2 0 mc2]) Try.underlying36 rfl (by kernel_rfl)) rfl ?_
    exact ⟨wA2, wc2, _, _, rfl, HC3.out.rowSet (fun h => absurd h (by omega)) _⟩
def nilL : List Ob := [modO ⟨#[77]⟩ 1 [(⟨#[78]⟩, 1)]]
def nilV : V := putsF putP (putsO putP v0L nilL) []
theorem nil_M : namesOf (loadedO (getV nilV) ⟨#[77]⟩) = (6, []) := by decide +kernel
theorem nil_0 : namesOf (loadedO (getV nilV) ⟨#[]⟩) = (2, []) := by decide +kernel
theorem nil_link {nm : ByteArray} {n : Int} (h : namesOf (loadedO (getV nilV) nm) = (n, [])) (hn : n ≠ 0) : linkO (getV nilV) nm = .inl n := by
  unfold linkO
  rw [namesOf_inl h hn]
set_option maxRecDepth 100000 in
set_option maxHeartbeats 32000000 in
theorem linkNil_walk (W : World) : Calls Try.prog 7 #[] W fun e w' => e = .returned (.bool true) ∧ Chg NoB W w' := by
  go_enter Try.func7, Try.ntmps7
  go_wp2_with fail
  refine (link_gone (Gone.nil W) ⟨#[77]⟩).mono ?_
  rintro e w1 ⟨rfl, hc1⟩
  have HC := Go.Lib.hid hc1
  clear hc1
  go_upto_region 2 with fail
  obtain ⟨w2, hw⟩ : ∃ w, w1.alloc (.cells #[.slice none 0 0, .slice none 0 0] IMT) = w := ⟨_, rfl⟩
  have HC := Go.Lib.hid (HC.out.trans (show Chg NoB w1 w2 by rw [← hw]; exact (Chg.refl NoB _).alloc _))
  rw [hw]
  clear hw
  go_wp2_with fail
  obtain ⟨w3, hw⟩ : ∃ w, w2.alloc (.cells #[.map none, .slice none 0 0, .int .i64 0] 67) = w := ⟨_, rfl⟩
  have HC := Go.Lib.hid (HC.out.trans (show Chg NoB w2 w3 by rw [← hw]; exact (Chg.refl NoB _).alloc _))
  have hg : Gone w3 (ptr w2.heap.size) := .inr ⟨_, rfl, by rw [← hw]; exact Blk.new w2 _ _⟩
  rw [hw]
  clear hw
  unfold ptr at hg
  refine (order_gone hg ⟨#[77]⟩).mono ?_
  rintro e w4 ⟨rfl, hc⟩
  have HC := Go.Lib.hid (HC.out.trans hc)
  clear hc hg
  go_wp2_with fail
  refine (load_gone (Gone.nil w4) ⟨#[]⟩).mono ?_
  rintro e w5 ⟨rfl, hc⟩
  have HC := Go.Lib.hid (HC.out.trans hc)
  clear hc
  generalize hov : obVal ob0 oa0 = ov
  obtain ⟨oz, az, rfl⟩ : ∃ oz az, ov = obVal oz az := ⟨_, _, hov.symm⟩
  clear hov
  unfold obVal obArr
  go_upto_region 4 with fail
  obtain ⟨w6, hw⟩ : ∃ w, w5.alloc (.cells (obArr oz az) OT) = w := ⟨_, rfl⟩
  have HC := Go.Lib.hid (HC.out.trans (show Chg NoB w5 w6 by rw [← hw]; exact (Chg.refl NoB _).alloc _))
  first | rw [hw] | (unfold obArr at hw; rw [hw])
  clear hw
  generalize w5.heap.size = b5 at *
  go_wp2_with fail
  obtain ⟨wi, hw⟩ : ∃ w, w6.alloc (.cells #[.string ⟨#[78]⟩, .int .u32 1] IT) = w := ⟨_, rfl⟩
  have hca : Chg NoB w6 wi := by rw [← hw]; exact (Chg.refl NoB _).alloc _
  have HR : Hid (CellsAt wi (some ⟨w6.heap.size, 0, none⟩) (impCells [(⟨#[78]⟩, 1)])) := Go.Lib.hid (by rw [← hw]; exact cells_of_blk (Blk.new _ IT #[.string ⟨#[78]⟩, .int .u32 1]))
  have HC := Go.Lib.hid (HC.out.trans hca)
  rw [hw]
  clear hw hca
  generalize w6.heap.size = g1 at *
  refine (module_k _ ⟨#[77]⟩ 1 [(⟨#[78]⟩, 1)] 1 rfl (some ⟨g1, 0, none⟩) 1).mono ?_
  rintro e wm1 ⟨c1, e1, rfl, hc, hbc, hbe⟩
  have HI1 : Hid (ObIs wm1 (modO ⟨#[77]⟩ 1 [(⟨#[78]⟩, 1)]) (modAt (some ⟨g1, 0, none⟩) 1 c1 e1)) := Go.Lib.hid (mod_is (HR.out.chg hc fun _ _ => id) (by simp [maxLen]) (by decide) (by decide) (fun x hx => by have := List.mem_singleton.1 hx; subst this; exact ⟨(by show (⟨#[78]⟩ : ByteArray).size ≤ maxLen; decide), by decide⟩) hbc hbe)
  have HC := Go.Lib.hid (HC.out.trans hc)
  clear hc hbc hbe HR
  go_wp2_with fail
  obtain ⟨w7, hw⟩ : ∃ w, wm1.alloc (.cells #[.string ⟨#[77]⟩, .int .u32 1, .slice (some ⟨g1, 0, none⟩) 1 1, .int .i64 0, .slice none 0 0, .slice (some ⟨c1, 0, none⟩) 1 1, .slice (some ⟨e1, 0, none⟩) 1 1, .slice none 0 0] OT) = w := ⟨_, rfl⟩
  have hca : Chg NoB wm1 w7 := by rw [← hw]; exact (Chg.refl NoB _).alloc _
  have HRow : Hid (CellsAt w7 (some ⟨wm1.heap.size, 0, none⟩) (allCells [(modO ⟨#[77]⟩ 1 [(⟨#[78]⟩, 1)], modAt (some ⟨g1, 0, none⟩) 1 c1 e1)])) := Go.Lib.hid (by rw [← hw]; exact cells_of_blk (Blk.new _ OT #[.string ⟨#[77]⟩, .int .u32 1, .slice (some ⟨g1, 0, none⟩) 1 1, .int .i64 0, .slice none 0 0, .slice (some ⟨c1, 0, none⟩) 1 1, .slice (some ⟨e1, 0, none⟩) 1 1, .slice none 0 0]))
  have HC := Go.Lib.hid (HC.out.trans hca)
  have HI1 := Go.Lib.hid (HI1.out.quiet hca)
  rw [hw]
  clear hw hca
  generalize wm1.heap.size = gr at *
  have hst := stores_c HRow.out (fun x hx => by
    simp only [List.mem_cons, List.not_mem_nil, or_false] at hx
    subst hx
    exact HI1.out) (by simp) (fs := []) (B := none) (fun h => by simp at h) (by simp) (c := 1) (cb := 0)
  have HST := Go.Lib.hid hst
  clear hst HRow HI1
  refine HST.out.mono ?_
  rintro e w8 ⟨s, r, rfl, hT⟩
  have hT2 : TwoL w7 w8 s r nilV (putsF putQ (putsO putQ v0L nilL) []) 1 := hT
  have HC := Go.Lib.hid (HC.out.trans hT2.chg)
  clear hT HST
  obtain ⟨base, F, aa, hsv, _⟩ := hT2
  have HSV := Go.Lib.hid hsv
  clear hsv
  go_wp2_with fail
  refine (link_c HSV.out (by show 0 + 2 ≤ maxLen; unfold maxLen; decide)).mono ?_
  rintro e w9 ⟨hc9, hp9⟩
  rw [nil_link nil_0 (by decide)] at hp9
  obtain rfl := hp9
  have HC := Go.Lib.hid (HC.out.trans hc9)
  have HSV := Go.Lib.hid (HSV.out.quiet hc9)
  clear hc9
  go_upto_region 6 with fail
  obtain ⟨w10, hw⟩ : ∃ w, w9.alloc (.cells #[.slice none 0 0, .slice none 0 0] IMT) = w := ⟨_, rfl⟩
  have hca : Chg NoB w9 w10 := by rw [← hw]; exact (Chg.refl NoB _).alloc _
  have HC := Go.Lib.hid (HC.out.trans hca)
  have HSV := Go.Lib.hid (HSV.out.quiet hca)
  rw [hw]
  clear hw hca
  generalize w9.heap.size = b9 at *
  go_wp2_with fail
  refine (link_c HSV.out (by show 1 + 2 ≤ maxLen; unfold maxLen; decide)).mono ?_
  rintro e w11 ⟨hc9, hp9⟩
  rw [nil_link nil_M (by decide)] at hp9
  obtain rfl := hp9
  have HC := Go.Lib.hid (HC.out.trans hc9)
  clear hc9 HSV
  go_upto_region 7 with fail
  obtain ⟨w12, hw⟩ : ∃ w, w11.alloc (.cells #[.slice none 0 0, .slice none 0 0] IMT) = w := ⟨_, rfl⟩
  have HC := Go.Lib.hid (HC.out.trans (show Chg NoB w11 w12 by rw [← hw]; exact (Chg.refl NoB _).alloc _))
  rw [hw]
  clear hw
  generalize w11.heap.size = b11 at *
  go_wp2_with fail
  refine (lay0_c w12).mono ?_
  rintro e w13 ⟨A, c, B2, c2, rfl, hc⟩
  have HC := Go.Lib.hid (HC.out.trans hc)
  clear hc
  go_upto_region 8 with fail
  obtain ⟨w14, hw⟩ : ∃ w, w13.alloc (.cells #[.slice A 2 c, .slice B2 0 c2] IMT) = w := ⟨_, rfl⟩
  have HC := Go.Lib.hid (HC.out.trans (show Chg NoB w13 w14 by rw [← hw]; exact (Chg.refl NoB _).alloc _))
  have hb : Blk w14 w13.heap.size IMT #[.slice A 2 c, .slice B2 0 c2] := by rw [← hw]; exact Blk.new _ _ _
  have x0 := hb.cell 0
  simp only [List.getElem?_toArray, List.getElem?_cons_zero] at x0
  rw [hw]
  clear hw hb
  generalize w13.heap.size = b13 at *
  go_wp2_with fail
  iterate 6
    refine (num9_c _ _).mono ?_
    rintro e wz ⟨rfl, hz⟩
    obtain rfl := hz.symm
    clear hz
    go_wp2_with fail
  refine (known_c _).mono ?_
  rintro e wk ⟨rfl, hck⟩
  have HCK := Go.Lib.hid (HC.out.trans hck)
  clear hck
  go_wp2_with fail
  go_ret
  exact ⟨rfl, HCK.out⟩
end Go.Proofs.Yteleglkoagnmcaa
